/- Several texts of the abstract machine in one. No condition. -/
import Derived.Test.YtogokiglmhnjkaaLabPackC
import Derived.Sort.Walk7
import Derived.Sort.Walk13a
import Derived.Shelf.GgSortFunc.RowK
import Derived.Sort.OwnSorted
import Derived.Lib.ReflectliteSwap
import Derived.Shelf.GgSortFunc.Slice
import Derived.Shelf.GgSortFunc.Tiny
import Derived.Shelf.GgSortFunc.Small
set_option linter.unusedVariables false
set_option linter.unusedSimpArgs false
set_option maxRecDepth 20000
namespace Go.AM
open Go.Sort
variable {P : Program} {env : Env} {α : Type} [Inhabited α]

def c_sort_partitionEqual_func : AFn := ⟨58, (.seq (.ops [(qS 4 (.box (.tmp 0))), (qS 8 (.mv (ic 0)))]) (.seq (.ops [(qS 11 (.fieldA 1 (.tmp 4))), (qS 12 (.load 1 false (.tmp 11))), (qS 13 (.mv (.tmp 1))), (qS 14 (.mv (.tmp 3))), (qS 15 (.dyn (.tmp 12) [(.tmp 13), (.tmp 14)]))]) (.seq (.ops [(qS 16 (.mv (.tmp 1))), (qS 17 (.pu (.n (.ar .add)) [(.tmp 16), (ic 1)])), (qS 18 (.mv (.tmp 2))), (qS 19 (.pu (.n (.ar .sub)) [(.tmp 18), (ic 1)])), (qS 9 (.mv (.tmp 17))), (qS 10 (.mv (.tmp 19)))]) (.seq (.block 0 (.loop (.block 1 (.seq (.block 2 (.loop (.seq (.seq (.ops [(qS 20 (.mv (.tmp 9))), (qS 21 (.mv (.tmp 10))), (qS 22 (.pu (.n (.ar .leq)) [(.tmp 20), (.tmp 21)])), (qS 23 (.mv (.tmp 22))), ⟨(.some 24), (.fieldA 0 (.tmp 4)), (.some (23, true)), [], .none⟩, ⟨(.some 25), (.load 1 false (.tmp 24)), (.some (23, true)), [], .none⟩, ⟨(.some 26), (.mv (.tmp 1)), (.some (23, true)), [], .none⟩, ⟨(.some 27), (.mv (.tmp 9)), (.some (23, true)), [], .none⟩, ⟨(.some 28), (.dyn (.tmp 25) [(.tmp 26), (.tmp 27)]), (.some (23, true)), [], .none⟩, ⟨(.some 29), (.pu (.n (.un .not)) [(.tmp 28)]), (.some (23, true)), [], .none⟩, (qS 30 (.pick (.tmp 23) (.tmp 29) (.const (.bool false))))]) (.cond (.tmp 30) .skip (.exit 2))) (.block 3 (.ops [(qS 31 (.mv (.tmp 9))), (qS 32 (.pu (.n (.ar .add)) [(.tmp 31), (ic 1)])), (qS 9 (.mv (.tmp 32)))]))))) (.seq (.block 4 (.loop (.seq (.seq (.ops [(qS 33 (.mv (.tmp 9))), (qS 34 (.mv (.tmp 10))), (qS 35 (.pu (.n (.ar .leq)) [(.tmp 33), (.tmp 34)])), (qS 36 (.mv (.tmp 35))), ⟨(.some 37), (.fieldA 0 (.tmp 4)), (.some (36, true)), [], .none⟩, ⟨(.some 38), (.load 1 false (.tmp 37)), (.some (36, true)), [], .none⟩, ⟨(.some 39), (.mv (.tmp 1)), (.some (36, true)), [], .none⟩, ⟨(.some 40), (.mv (.tmp 10)), (.some (36, true)), [], .none⟩, ⟨(.some 41), (.dyn (.tmp 38) [(.tmp 39), (.tmp 40)]), (.some (36, true)), [], .none⟩, (qS 42 (.pick (.tmp 36) (.tmp 41) (.const (.bool false))))]) (.cond (.tmp 42) .skip (.exit 4))) (.block 5 (.ops [(qS 43 (.mv (.tmp 10))), (qS 44 (.pu (.n (.ar .sub)) [(.tmp 43), (ic 1)])), (qS 10 (.mv (.tmp 44)))]))))) (.seq (.seq (.ops [(qS 45 (.mv (.tmp 9))), (qS 46 (.mv (.tmp 10))), (qS 47 (.pu (.n (.ar .gtr)) [(.tmp 45), (.tmp 46)]))]) (.cond (.tmp 47) (.exit 0) .skip)) (.seq (.ops [(qS 48 (.fieldA 1 (.tmp 4))), (qS 49 (.load 1 false (.tmp 48))), (qS 50 (.mv (.tmp 9))), (qS 51 (.mv (.tmp 10))), (qS 52 (.dyn (.tmp 49) [(.tmp 50), (.tmp 51)]))]) (.seq (.ops [(qS 53 (.mv (.tmp 9))), (qS 54 (.pu (.n (.ar .add)) [(.tmp 53), (ic 1)])), (qS 9 (.mv (.tmp 54)))]) (.ops [(qS 55 (.mv (.tmp 10))), (qS 56 (.pu (.n (.ar .sub)) [(.tmp 55), (ic 1)])), (qS 10 (.mv (.tmp 56)))]))))))))) (.seq (.ops [(qS 57 (.mv (.tmp 9))), (qS 8 (.mv (.tmp 57)))]) .ret))))), [(.tmp 8)]⟩

def c_sort_partition_func : AFn := ⟨107, (.seq (.ops [(qS 4 (.box (.tmp 0))), (qS 8 (.mv (ic 0))), (qS 9 (.mv (.const (.bool false))))]) (.seq (.ops [(qS 12 (.fieldA 1 (.tmp 4))), (qS 13 (.load 1 false (.tmp 12))), (qS 14 (.mv (.tmp 1))), (qS 15 (.mv (.tmp 3))), (qS 16 (.dyn (.tmp 13) [(.tmp 14), (.tmp 15)]))]) (.seq (.ops [(qS 17 (.mv (.tmp 1))), (qS 18 (.pu (.n (.ar .add)) [(.tmp 17), (ic 1)])), (qS 19 (.mv (.tmp 2))), (qS 20 (.pu (.n (.ar .sub)) [(.tmp 19), (ic 1)])), (qS 10 (.mv (.tmp 18))), (qS 11 (.mv (.tmp 20)))]) (.seq (.block 0 (.loop (.seq (.seq (.ops [(qS 21 (.mv (.tmp 10))), (qS 22 (.mv (.tmp 11))), (qS 23 (.pu (.n (.ar .leq)) [(.tmp 21), (.tmp 22)])), (qS 24 (.mv (.tmp 23))), ⟨(.some 25), (.fieldA 0 (.tmp 4)), (.some (24, true)), [], .none⟩, ⟨(.some 26), (.load 1 false (.tmp 25)), (.some (24, true)), [], .none⟩, ⟨(.some 27), (.mv (.tmp 10)), (.some (24, true)), [], .none⟩, ⟨(.some 28), (.mv (.tmp 1)), (.some (24, true)), [], .none⟩, ⟨(.some 29), (.dyn (.tmp 26) [(.tmp 27), (.tmp 28)]), (.some (24, true)), [], .none⟩, (qS 30 (.pick (.tmp 24) (.tmp 29) (.const (.bool false))))]) (.cond (.tmp 30) .skip (.exit 0))) (.block 1 (.ops [(qS 31 (.mv (.tmp 10))), (qS 32 (.pu (.n (.ar .add)) [(.tmp 31), (ic 1)])), (qS 10 (.mv (.tmp 32)))]))))) (.seq (.block 2 (.loop (.seq (.seq (.ops [(qS 33 (.mv (.tmp 10))), (qS 34 (.mv (.tmp 11))), (qS 35 (.pu (.n (.ar .leq)) [(.tmp 33), (.tmp 34)])), (qS 36 (.mv (.tmp 35))), ⟨(.some 37), (.fieldA 0 (.tmp 4)), (.some (36, true)), [], .none⟩, ⟨(.some 38), (.load 1 false (.tmp 37)), (.some (36, true)), [], .none⟩, ⟨(.some 39), (.mv (.tmp 11)), (.some (36, true)), [], .none⟩, ⟨(.some 40), (.mv (.tmp 1)), (.some (36, true)), [], .none⟩, ⟨(.some 41), (.dyn (.tmp 38) [(.tmp 39), (.tmp 40)]), (.some (36, true)), [], .none⟩, ⟨(.some 42), (.pu (.n (.un .not)) [(.tmp 41)]), (.some (36, true)), [], .none⟩, (qS 43 (.pick (.tmp 36) (.tmp 42) (.const (.bool false))))]) (.cond (.tmp 43) .skip (.exit 2))) (.block 3 (.ops [(qS 44 (.mv (.tmp 11))), (qS 45 (.pu (.n (.ar .sub)) [(.tmp 44), (ic 1)])), (qS 11 (.mv (.tmp 45)))]))))) (.seq (.seq (.ops [(qS 46 (.mv (.tmp 10))), (qS 47 (.mv (.tmp 11))), (qS 48 (.pu (.n (.ar .gtr)) [(.tmp 46), (.tmp 47)]))]) (.cond (.tmp 48) (.seq (.ops [(qS 49 (.fieldA 1 (.tmp 4))), (qS 50 (.load 1 false (.tmp 49))), (qS 51 (.mv (.tmp 11))), (qS 52 (.mv (.tmp 1))), (qS 53 (.dyn (.tmp 50) [(.tmp 51), (.tmp 52)]))]) (.seq (.ops [(qS 54 (.mv (.tmp 11))), (qS 8 (.mv (.tmp 54))), (qS 9 (.mv (.const (.bool true))))]) .ret)) .skip)) (.seq (.ops [(qS 55 (.fieldA 1 (.tmp 4))), (qS 56 (.load 1 false (.tmp 55))), (qS 57 (.mv (.tmp 10))), (qS 58 (.mv (.tmp 11))), (qS 59 (.dyn (.tmp 56) [(.tmp 57), (.tmp 58)]))]) (.seq (.ops [(qS 60 (.mv (.tmp 10))), (qS 61 (.pu (.n (.ar .add)) [(.tmp 60), (ic 1)])), (qS 10 (.mv (.tmp 61)))]) (.seq (.ops [(qS 62 (.mv (.tmp 11))), (qS 63 (.pu (.n (.ar .sub)) [(.tmp 62), (ic 1)])), (qS 11 (.mv (.tmp 63)))]) (.seq (.block 4 (.loop (.block 5 (.seq (.block 6 (.loop (.seq (.seq (.ops [(qS 64 (.mv (.tmp 10))), (qS 65 (.mv (.tmp 11))), (qS 66 (.pu (.n (.ar .leq)) [(.tmp 64), (.tmp 65)])), (qS 67 (.mv (.tmp 66))), ⟨(.some 68), (.fieldA 0 (.tmp 4)), (.some (67, true)), [], .none⟩, ⟨(.some 69), (.load 1 false (.tmp 68)), (.some (67, true)), [], .none⟩, ⟨(.some 70), (.mv (.tmp 10)), (.some (67, true)), [], .none⟩, ⟨(.some 71), (.mv (.tmp 1)), (.some (67, true)), [], .none⟩, ⟨(.some 72), (.dyn (.tmp 69) [(.tmp 70), (.tmp 71)]), (.some (67, true)), [], .none⟩, (qS 73 (.pick (.tmp 67) (.tmp 72) (.const (.bool false))))]) (.cond (.tmp 73) .skip (.exit 6))) (.block 7 (.ops [(qS 74 (.mv (.tmp 10))), (qS 75 (.pu (.n (.ar .add)) [(.tmp 74), (ic 1)])), (qS 10 (.mv (.tmp 75)))]))))) (.seq (.block 8 (.loop (.seq (.seq (.ops [(qS 76 (.mv (.tmp 10))), (qS 77 (.mv (.tmp 11))), (qS 78 (.pu (.n (.ar .leq)) [(.tmp 76), (.tmp 77)])), (qS 79 (.mv (.tmp 78))), ⟨(.some 80), (.fieldA 0 (.tmp 4)), (.some (79, true)), [], .none⟩, ⟨(.some 81), (.load 1 false (.tmp 80)), (.some (79, true)), [], .none⟩, ⟨(.some 82), (.mv (.tmp 11)), (.some (79, true)), [], .none⟩, ⟨(.some 83), (.mv (.tmp 1)), (.some (79, true)), [], .none⟩, ⟨(.some 84), (.dyn (.tmp 81) [(.tmp 82), (.tmp 83)]), (.some (79, true)), [], .none⟩, ⟨(.some 85), (.pu (.n (.un .not)) [(.tmp 84)]), (.some (79, true)), [], .none⟩, (qS 86 (.pick (.tmp 79) (.tmp 85) (.const (.bool false))))]) (.cond (.tmp 86) .skip (.exit 8))) (.block 9 (.ops [(qS 87 (.mv (.tmp 11))), (qS 88 (.pu (.n (.ar .sub)) [(.tmp 87), (ic 1)])), (qS 11 (.mv (.tmp 88)))]))))) (.seq (.seq (.ops [(qS 89 (.mv (.tmp 10))), (qS 90 (.mv (.tmp 11))), (qS 91 (.pu (.n (.ar .gtr)) [(.tmp 89), (.tmp 90)]))]) (.cond (.tmp 91) (.exit 4) .skip)) (.seq (.ops [(qS 92 (.fieldA 1 (.tmp 4))), (qS 93 (.load 1 false (.tmp 92))), (qS 94 (.mv (.tmp 10))), (qS 95 (.mv (.tmp 11))), (qS 96 (.dyn (.tmp 93) [(.tmp 94), (.tmp 95)]))]) (.seq (.ops [(qS 97 (.mv (.tmp 10))), (qS 98 (.pu (.n (.ar .add)) [(.tmp 97), (ic 1)])), (qS 10 (.mv (.tmp 98)))]) (.ops [(qS 99 (.mv (.tmp 11))), (qS 100 (.pu (.n (.ar .sub)) [(.tmp 99), (ic 1)])), (qS 11 (.mv (.tmp 100)))]))))))))) (.seq (.ops [(qS 101 (.fieldA 1 (.tmp 4))), (qS 102 (.load 1 false (.tmp 101))), (qS 103 (.mv (.tmp 11))), (qS 104 (.mv (.tmp 1))), (qS 105 (.dyn (.tmp 102) [(.tmp 103), (.tmp 104)]))]) (.seq (.ops [(qS 106 (.mv (.tmp 11))), (qS 8 (.mv (.tmp 106))), (qS 9 (.mv (.const (.bool false))))]) .ret)))))))))))), [(.tmp 8), (.tmp 9)]⟩

end Go.AM

set_option linter.unusedVariables false
set_option linter.unusedSimpArgs false
set_option maxRecDepth 20000
namespace Go.AM
open Go.Sort
variable {P : Program} {env : Env} {α : Type} [Inhabited α]

def c_sort_partialInsertionSort_func : AFn := ⟨91, (.seq (.ops [(qS 3 (.box (.tmp 0))), (qS 6 (.mv (.const (.bool false))))]) (.seq (.ops [(qS 11 (.mv (.tmp 1))), (qS 12 (.pu (.n (.ar .add)) [(.tmp 11), (ic 1)])), (qS 7 (.mv (.tmp 12)))]) (.seq (.seq (.ops [(qS 8 (.mv (ic 0)))]) (.block 0 (.loop (.seq (.seq (.ops [(qS 13 (.mv (.tmp 8))), (qS 14 (.pu (.n (.ar .lss)) [(.tmp 13), (ic 5)]))]) (.cond (.tmp 14) .skip (.exit 0))) (.seq (.block 1 (.seq (.block 2 (.loop (.seq (.seq (.ops [(qS 17 (.mv (.tmp 7))), (qS 18 (.mv (.tmp 2))), (qS 19 (.pu (.n (.ar .lss)) [(.tmp 17), (.tmp 18)])), (qS 20 (.mv (.tmp 19))), ⟨(.some 21), (.fieldA 0 (.tmp 3)), (.some (20, true)), [], .none⟩, ⟨(.some 22), (.load 1 false (.tmp 21)), (.some (20, true)), [], .none⟩, ⟨(.some 23), (.mv (.tmp 7)), (.some (20, true)), [], .none⟩, ⟨(.some 24), (.mv (.tmp 7)), (.some (20, true)), [], .none⟩, ⟨(.some 25), (.pu (.n (.ar .sub)) [(.tmp 24), (ic 1)]), (.some (20, true)), [], .none⟩, ⟨(.some 26), (.dyn (.tmp 22) [(.tmp 23), (.tmp 25)]), (.some (20, true)), [], .none⟩, ⟨(.some 27), (.pu (.n (.un .not)) [(.tmp 26)]), (.some (20, true)), [], .none⟩, (qS 28 (.pick (.tmp 20) (.tmp 27) (.const (.bool false))))]) (.cond (.tmp 28) .skip (.exit 2))) (.block 3 (.ops [(qS 29 (.mv (.tmp 7))), (qS 30 (.pu (.n (.ar .add)) [(.tmp 29), (ic 1)])), (qS 7 (.mv (.tmp 30)))]))))) (.seq (.seq (.ops [(qS 31 (.mv (.tmp 7))), (qS 32 (.mv (.tmp 2))), (qS 33 (.pu (.n (.ar .eql)) [(.tmp 31), (.tmp 32)]))]) (.cond (.tmp 33) (.seq (.ops [(qS 6 (.mv (.const (.bool true))))]) .ret) .skip)) (.seq (.seq (.ops [(qS 34 (.mv (.tmp 2))), (qS 35 (.mv (.tmp 1))), (qS 36 (.pu (.n (.ar .sub)) [(.tmp 34), (.tmp 35)])), (qS 37 (.pu (.n (.ar .lss)) [(.tmp 36), (ic 50)]))]) (.cond (.tmp 37) (.seq (.ops [(qS 6 (.mv (.const (.bool false))))]) .ret) .skip)) (.seq (.ops [(qS 38 (.fieldA 1 (.tmp 3))), (qS 39 (.load 1 false (.tmp 38))), (qS 40 (.mv (.tmp 7))), (qS 41 (.mv (.tmp 7))), (qS 42 (.pu (.n (.ar .sub)) [(.tmp 41), (ic 1)])), (qS 43 (.dyn (.tmp 39) [(.tmp 40), (.tmp 42)]))]) (.seq (.seq (.ops [(qS 44 (.mv (.tmp 7))), (qS 45 (.mv (.tmp 1))), (qS 46 (.pu (.n (.ar .sub)) [(.tmp 44), (.tmp 45)])), (qS 47 (.pu (.n (.ar .geq)) [(.tmp 46), (ic 2)]))]) (.cond (.tmp 47) (.seq (.ops [(qS 48 (.mv (.tmp 7))), (qS 49 (.pu (.n (.ar .sub)) [(.tmp 48), (ic 1)])), (qS 9 (.mv (.tmp 49)))]) (.block 4 (.loop (.seq (.seq (.ops [(qS 50 (.mv (.tmp 9))), (qS 51 (.pu (.n (.ar .geq)) [(.tmp 50), (ic 1)]))]) (.cond (.tmp 51) .skip (.exit 4))) (.seq (.block 5 (.seq (.seq (.ops [(qS 54 (.fieldA 0 (.tmp 3))), (qS 55 (.load 1 false (.tmp 54))), (qS 56 (.mv (.tmp 9))), (qS 57 (.mv (.tmp 9))), (qS 58 (.pu (.n (.ar .sub)) [(.tmp 57), (ic 1)])), (qS 59 (.dyn (.tmp 55) [(.tmp 56), (.tmp 58)])), (qS 60 (.pu (.n (.un .not)) [(.tmp 59)]))]) (.cond (.tmp 60) (.exit 4) .skip)) (.ops [(qS 61 (.fieldA 1 (.tmp 3))), (qS 62 (.load 1 false (.tmp 61))), (qS 63 (.mv (.tmp 9))), (qS 64 (.mv (.tmp 9))), (qS 65 (.pu (.n (.ar .sub)) [(.tmp 64), (ic 1)])), (qS 66 (.dyn (.tmp 62) [(.tmp 63), (.tmp 65)]))]))) (.ops [(qS 52 (.mv (.tmp 9))), (qS 53 (.pu (.n (.ar .sub)) [(.tmp 52), (ic 1)])), (qS 9 (.mv (.tmp 53)))])))))) .skip)) (.seq (.ops [(qS 67 (.mv (.tmp 2))), (qS 68 (.mv (.tmp 7))), (qS 69 (.pu (.n (.ar .sub)) [(.tmp 67), (.tmp 68)])), (qS 70 (.pu (.n (.ar .geq)) [(.tmp 69), (ic 2)]))]) (.cond (.tmp 70) (.seq (.ops [(qS 71 (.mv (.tmp 7))), (qS 72 (.pu (.n (.ar .add)) [(.tmp 71), (ic 1)])), (qS 10 (.mv (.tmp 72)))]) (.block 6 (.loop (.seq (.seq (.ops [(qS 73 (.mv (.tmp 10))), (qS 74 (.mv (.tmp 2))), (qS 75 (.pu (.n (.ar .lss)) [(.tmp 73), (.tmp 74)]))]) (.cond (.tmp 75) .skip (.exit 6))) (.seq (.block 7 (.seq (.seq (.ops [(qS 78 (.fieldA 0 (.tmp 3))), (qS 79 (.load 1 false (.tmp 78))), (qS 80 (.mv (.tmp 10))), (qS 81 (.mv (.tmp 10))), (qS 82 (.pu (.n (.ar .sub)) [(.tmp 81), (ic 1)])), (qS 83 (.dyn (.tmp 79) [(.tmp 80), (.tmp 82)])), (qS 84 (.pu (.n (.un .not)) [(.tmp 83)]))]) (.cond (.tmp 84) (.exit 6) .skip)) (.ops [(qS 85 (.fieldA 1 (.tmp 3))), (qS 86 (.load 1 false (.tmp 85))), (qS 87 (.mv (.tmp 10))), (qS 88 (.mv (.tmp 10))), (qS 89 (.pu (.n (.ar .sub)) [(.tmp 88), (ic 1)])), (qS 90 (.dyn (.tmp 86) [(.tmp 87), (.tmp 89)]))]))) (.ops [(qS 76 (.mv (.tmp 10))), (qS 77 (.pu (.n (.ar .add)) [(.tmp 76), (ic 1)])), (qS 10 (.mv (.tmp 77)))])))))) .skip)))))))) (.ops [(qS 15 (.mv (.tmp 8))), (qS 16 (.pu (.n (.ar .add)) [(.tmp 15), (ic 1)])), (qS 8 (.mv (.tmp 16)))])))))) (.seq (.ops [(qS 6 (.mv (.const (.bool false))))]) .ret)))), [(.tmp 6)]⟩

end Go.AM

set_option linter.unusedVariables false
set_option linter.unusedSimpArgs false
set_option maxRecDepth 20000
namespace Go.AM
open Go.Sort
variable {P : Program} {env : Env} {α : Type} [Inhabited α]

/-- The blocks from n on stay as they are, all but one. -/
structure KeepP (n C : Nat) (H H' : Heap) : Prop where
  le : H.length ≤ H'.length
  at_ : ∀ b, n ≤ b → b < H.length → b ≠ C → H'[b]? = H[b]?
theorem KeepP.trans {n C : Nat} {H H1 H2 : Heap} (a : KeepP n C H H1) (b : KeepP n C H1 H2) : KeepP n C H H2 :=
  ⟨Nat.le_trans a.le b.le, fun x h1 h2 h3 => (b.at_ x h1 (Nat.lt_of_lt_of_le h2 a.le) h3).trans (a.at_ x h1 h2 h3)⟩

/-- A function of the sort that counts swaps in a cell and leaves the row. -/
structure PostP (L : LS env α) (C s : Nat) (H : Heap) (A : Array α) (v0 : V) (v : V) (H' : Heap) : Prop where
  val : v = v0
  lh : L.Lh H' A
  keep : KeepP L.n C H H'
  cell : H'[C]? = some (.cells [nV s])

def CP (L : LS env α) (c : Nat) (args : List V) (C s : Nat) (H : Heap) (A : Array α) (v0 : V) : Prop := ∃ h', env c none args H = some (v0, h') ∧ L.Lh h' A ∧ KeepP L.n C H h' ∧ h'[C]? = some (.cells [nV s])

theorem CP.of {L : LS env α} {c C s : Nat} {args : List V} {H : Heap} {A : Array α} {v0 : V} {F : AFn} (he : ∀ H, env c none args H = runIn P env F none args H) (h : R P env F args H (PostP L C s H A v0)) : CP L c args C s H A v0 := by
  obtain ⟨⟨v, h'⟩, h1, h2⟩ := h
  have p : PostP L C s H A v0 v h' := h2
  refine ⟨h', ?_, p.lh, p.keep, p.cell⟩
  rw [he]
  exact h1.trans (by rw [p.val])

def c_sort_order2_func : AFn := ⟨24, (.seq (.ops [(qS 4 (.box (.tmp 0))), (qS 8 (.mv (ic 0))), (qS 9 (.mv (ic 0)))]) (.seq (.seq (.ops [(qS 10 (.fieldA 0 (.tmp 4))), (qS 11 (.load 1 false (.tmp 10))), (qS 12 (.mv (.tmp 2))), (qS 13 (.mv (.tmp 1))), (qS 14 (.dyn (.tmp 11) [(.tmp 12), (.tmp 13)]))]) (.cond (.tmp 14) (.seq (.ops [(qS 15 (.mv (.tmp 3))), (qS 16 (.nilChk (.tmp 15))), (qS 17 (.load 1 false (.tmp 16))), (qS 18 (.pu (.n (.ar .add)) [(.tmp 17), (ic 1)])), (qS 19 (.nilChk (.tmp 15))), ⟨.none, (.storeV [(0, false)] 1 (.tmp 19) (.tmp 18)), .none, [], .none⟩]) (.seq (.ops [(qS 20 (.mv (.tmp 2))), (qS 21 (.mv (.tmp 1))), (qS 8 (.mv (.tmp 20))), (qS 9 (.mv (.tmp 21)))]) .ret)) .skip)) (.seq (.ops [(qS 22 (.mv (.tmp 1))), (qS 23 (.mv (.tmp 2))), (qS 8 (.mv (.tmp 22))), (qS 9 (.mv (.tmp 23)))]) .ret))), [(.tmp 8), (.tmp 9)]⟩

/-- A walk's heap, with a cell that counts. -/
structure FrP (L : LS env α) (H : Heap) (B C : Nat) (h : Heap) (A : Array α) (s : Nat) : Prop where
  lh : L.Lh h A
  keep : KeepP L.n C H h
  box : h[B]? = some (.cells [L.less, L.swap])
  cell : h[C]? = some (.cells [nV s])
  low : L.n ≤ B
  lowC : L.n ≤ C
  ne : B ≠ C

theorem FrP.lt {L : LS env α} {H h : Heap} {B C s : Nat} {A : Array α} (f : FrP L H B C h A s) : B < h.length := (List.getElem?_eq_some_iff.1 f.box).1
theorem FrP.next {L : LS env α} {H h h' : Heap} {B C s s' : Nat} {A : Array α} (f : FrP L H B C h A s) (l : L.Lh h' A) (k : KeepP L.n C h h') (c : h'[C]? = some (.cells [nV s'])) : FrP L H B C h' A s' :=
  ⟨l, f.keep.trans k, (k.at_ B f.low f.lt f.ne).trans f.box, c, f.low, f.lowC, f.ne⟩
def c_sort_median_func (f_sort_order2_func : Nat) : AFn := ⟨36, (.seq (.ops [(qS 5 (.box (.tmp 0))), (qS 10 (.mv (ic 0)))]) (.seq (.ops [(qS 12 (.load 2 true (.tmp 5))), (qS 13 (.mv (.tmp 1))), (qS 14 (.mv (.tmp 2))), (qS 15 (.mv (.tmp 4))), (qS 16 (.call (2 * f_sort_order2_func + 1) [(.tmp 12), (.tmp 13), (.tmp 14), (.tmp 15)])), (qS 11 (.mv (.tmp 16))), (qS 17 (.extract 0 (.tmp 11))), (qS 18 (.extract 1 (.tmp 11))), (qS 1 (.mv (.tmp 17))), (qS 2 (.mv (.tmp 18)))]) (.seq (.ops [(qS 20 (.load 2 true (.tmp 5))), (qS 21 (.mv (.tmp 2))), (qS 22 (.mv (.tmp 3))), (qS 23 (.mv (.tmp 4))), (qS 24 (.call (2 * f_sort_order2_func + 1) [(.tmp 20), (.tmp 21), (.tmp 22), (.tmp 23)])), (qS 19 (.mv (.tmp 24))), (qS 25 (.extract 0 (.tmp 19))), (qS 26 (.extract 1 (.tmp 19))), (qS 2 (.mv (.tmp 25))), (qS 3 (.mv (.tmp 26)))]) (.seq (.ops [(qS 28 (.load 2 true (.tmp 5))), (qS 29 (.mv (.tmp 1))), (qS 30 (.mv (.tmp 2))), (qS 31 (.mv (.tmp 4))), (qS 32 (.call (2 * f_sort_order2_func + 1) [(.tmp 28), (.tmp 29), (.tmp 30), (.tmp 31)])), (qS 27 (.mv (.tmp 32))), (qS 33 (.extract 0 (.tmp 27))), (qS 34 (.extract 1 (.tmp 27))), (qS 1 (.mv (.tmp 33))), (qS 2 (.mv (.tmp 34)))]) (.seq (.ops [(qS 35 (.mv (.tmp 2))), (qS 10 (.mv (.tmp 35)))]) .ret))))), [(.tmp 10)]⟩

def c_sort_medianAdjacent_func (f_sort_median_func : Nat) : AFn := ⟨15, (.seq (.ops [(qS 3 (.box (.tmp 0))), (qS 6 (.mv (ic 0)))]) (.seq (.ops [(qS 7 (.load 2 true (.tmp 3))), (qS 8 (.mv (.tmp 1))), (qS 9 (.pu (.n (.ar .sub)) [(.tmp 8), (ic 1)])), (qS 10 (.mv (.tmp 1))), (qS 11 (.mv (.tmp 1))), (qS 12 (.pu (.n (.ar .add)) [(.tmp 11), (ic 1)])), (qS 13 (.mv (.tmp 2))), (qS 14 (.call (2 * f_sort_median_func + 1) [(.tmp 7), (.tmp 9), (.tmp 10), (.tmp 12), (.tmp 13)])), (qS 6 (.mv (.tmp 14)))]) .ret)), [(.tmp 6)]⟩

end Go.AM

set_option linter.unusedVariables false
set_option linter.unusedSimpArgs false
set_option maxRecDepth 20000
namespace Go.AM
open Go.Sort
variable {P : Program} {env : Env} {α : Type} [Inhabited α]

def hintN : Hint → Nat
  | .unknown => 0
  | .increasing => 1
  | .decreasing => 2

/-- A walk's heap: the two functions, and a cell of its own. -/
structure FrC (L : LS env α) (H : Heap) (B C : Nat) (h : Heap) (A : Array α) (s : Nat) : Prop where
  lh : L.Lh h A
  keep : KeepS L.n H h
  box : h[B]? = some (.cells [L.less, L.swap])
  cell : h[C]? = some (.cells [nV s])
  low : L.n ≤ B
  lowC : L.n ≤ C
  new : H.length ≤ C
  ne : B ≠ C

theorem FrC.lt {L : LS env α} {H h : Heap} {B C s : Nat} {A : Array α} (f : FrC L H B C h A s) : B < h.length := (List.getElem?_eq_some_iff.1 f.box).1
theorem FrC.next {L : LS env α} {H h h' : Heap} {B C s s' : Nat} {A : Array α} (f : FrC L H B C h A s) (l : L.Lh h' A) (k : KeepP L.n C h h') (c : h'[C]? = some (.cells [nV s'])) : FrC L H B C h' A s' where
  lh := l
  keep := ⟨Nat.le_trans f.keep.le k.le, fun b h1 h2 => (k.at_ b h1 (Nat.lt_of_lt_of_le h2 f.keep.le) (by have := f.new; omega)).trans (f.keep.at_ b h1 h2)⟩
  box := (k.at_ B f.low f.lt f.ne).trans f.box
  cell := c
  low := f.low
  lowC := f.lowC
  new := f.new
  ne := f.ne
def c_sort_choosePivot_func (f_sort_medianAdjacent_func : Nat) (f_sort_median_func : Nat) : AFn := ⟨57, (.seq (.ops [(qS 3 (.box (.tmp 0))), (qS 6 (.mv (ic 0))), (qS 7 (.mv (ic 0)))]) (.seq (.ops [(qS 13 (.mv (.tmp 2))), (qS 14 (.mv (.tmp 1))), (qS 15 (.pu (.n (.ar .sub)) [(.tmp 13), (.tmp 14)])), (qS 8 (.mv (.tmp 15)))]) (.seq (.ops [(qS 9 (.allocV [(0, false)] [(.int .i64 0)]))]) (.seq (.ops [(qS 16 (.mv (.tmp 1))), (qS 17 (.mv (.tmp 8))), (qS 18 (.pu (.n (.ar .quo)) [(.tmp 17), (ic 4)])), (qS 19 (.pu (.n (.ar .mul)) [(.tmp 18), (ic 1)])), (qS 20 (.pu (.n (.ar .add)) [(.tmp 16), (.tmp 19)])), (qS 10 (.mv (.tmp 20)))]) (.seq (.ops [(qS 21 (.mv (.tmp 1))), (qS 22 (.mv (.tmp 8))), (qS 23 (.pu (.n (.ar .quo)) [(.tmp 22), (ic 4)])), (qS 24 (.pu (.n (.ar .mul)) [(.tmp 23), (ic 2)])), (qS 25 (.pu (.n (.ar .add)) [(.tmp 21), (.tmp 24)])), (qS 11 (.mv (.tmp 25)))]) (.seq (.ops [(qS 26 (.mv (.tmp 1))), (qS 27 (.mv (.tmp 8))), (qS 28 (.pu (.n (.ar .quo)) [(.tmp 27), (ic 4)])), (qS 29 (.pu (.n (.ar .mul)) [(.tmp 28), (ic 3)])), (qS 30 (.pu (.n (.ar .add)) [(.tmp 26), (.tmp 29)])), (qS 12 (.mv (.tmp 30)))]) (.seq (.seq (.ops [(qS 31 (.mv (.tmp 8))), (qS 32 (.pu (.n (.ar .geq)) [(.tmp 31), (ic 8)]))]) (.cond (.tmp 32) (.seq (.seq (.ops [(qS 33 (.mv (.tmp 8))), (qS 34 (.pu (.n (.ar .geq)) [(.tmp 33), (ic 50)]))]) (.cond (.tmp 34) (.seq (.ops [(qS 35 (.load 2 true (.tmp 3))), (qS 36 (.mv (.tmp 10))), (qS 37 (.call (2 * f_sort_medianAdjacent_func + 1) [(.tmp 35), (.tmp 36), (.tmp 9)])), (qS 10 (.mv (.tmp 37)))]) (.seq (.ops [(qS 38 (.load 2 true (.tmp 3))), (qS 39 (.mv (.tmp 11))), (qS 40 (.call (2 * f_sort_medianAdjacent_func + 1) [(.tmp 38), (.tmp 39), (.tmp 9)])), (qS 11 (.mv (.tmp 40)))]) (.ops [(qS 41 (.load 2 true (.tmp 3))), (qS 42 (.mv (.tmp 12))), (qS 43 (.call (2 * f_sort_medianAdjacent_func + 1) [(.tmp 41), (.tmp 42), (.tmp 9)])), (qS 12 (.mv (.tmp 43)))]))) .skip)) (.ops [(qS 44 (.load 2 true (.tmp 3))), (qS 45 (.mv (.tmp 10))), (qS 46 (.mv (.tmp 11))), (qS 47 (.mv (.tmp 12))), (qS 48 (.call (2 * f_sort_median_func + 1) [(.tmp 44), (.tmp 45), (.tmp 46), (.tmp 47), (.tmp 9)])), (qS 11 (.mv (.tmp 48)))])) .skip)) (.seq (.ops [(qS 49 (.load 1 false (.tmp 9)))]) (.block 0 (.seq (.ops [(qS 52 (.pu (.n (.ar .eql)) [(.tmp 49), (ic 0)])), (qS 51 (.mv (.tmp 52)))]) (.cond (.tmp 51) (.seq (.ops [(qS 53 (.mv (.tmp 11))), (qS 6 (.mv (.tmp 53))), (qS 7 (.mv (ic 1)))]) .ret) (.seq (.ops [(qS 55 (.pu (.n (.ar .eql)) [(.tmp 49), (ic 12)])), (qS 54 (.mv (.tmp 55)))]) (.cond (.tmp 54) (.seq (.ops [(qS 56 (.mv (.tmp 11))), (qS 6 (.mv (.tmp 56))), (qS 7 (.mv (ic 2)))]) .ret) (.seq (.ops [(qS 50 (.mv (.tmp 11))), (qS 6 (.mv (.tmp 50))), (qS 7 (.mv (ic 0)))]) .ret)))))))))))))), [(.tmp 6), (.tmp 7)]⟩

end Go.AM

set_option linter.unusedVariables false
set_option linter.unusedSimpArgs false
set_option maxRecDepth 20000
namespace Go.AM
open Go.Sort
open Go.Proofs (breakPatterns_eq bpRest bp_step)
variable {P : Program} {env : Env} {α : Type} [Inhabited α]

abbrev uV (n : Nat) : V := .i (.s (.int .u64 (n : Int)))

def c_sort_xorshift_Next : AFn := ⟨33, (.seq (.ops [(qS 2 (.mv (.const (.int .u64 0))))]) (.seq (.ops [(qS 3 (.mv (.tmp 0))), (qS 4 (.nilChk (.tmp 3))), (qS 5 (.load 1 false (.tmp 4))), (qS 6 (.mv (.tmp 0))), (qS 7 (.nilChk (.tmp 6))), (qS 8 (.load 1 false (.tmp 7))), (qS 9 (.pu (.n (.ar .shl)) [(.tmp 8), (.const (.int .u64 13))])), (qS 10 (.pu (.n (.ar .xor)) [(.tmp 5), (.tmp 9)])), (qS 11 (.nilChk (.tmp 3))), ⟨.none, (.store 1 (.tmp 11) (.tmp 10)), .none, [], .none⟩]) (.seq (.ops [(qS 12 (.mv (.tmp 0))), (qS 13 (.nilChk (.tmp 12))), (qS 14 (.load 1 false (.tmp 13))), (qS 15 (.mv (.tmp 0))), (qS 16 (.nilChk (.tmp 15))), (qS 17 (.load 1 false (.tmp 16))), (qS 18 (.pu (.n (.ar .shr)) [(.tmp 17), (.const (.int .u64 7))])), (qS 19 (.pu (.n (.ar .xor)) [(.tmp 14), (.tmp 18)])), (qS 20 (.nilChk (.tmp 12))), ⟨.none, (.store 1 (.tmp 20) (.tmp 19)), .none, [], .none⟩]) (.seq (.ops [(qS 21 (.mv (.tmp 0))), (qS 22 (.nilChk (.tmp 21))), (qS 23 (.load 1 false (.tmp 22))), (qS 24 (.mv (.tmp 0))), (qS 25 (.nilChk (.tmp 24))), (qS 26 (.load 1 false (.tmp 25))), (qS 27 (.pu (.n (.ar .shl)) [(.tmp 26), (.const (.int .u64 17))])), (qS 28 (.pu (.n (.ar .xor)) [(.tmp 23), (.tmp 27)])), (qS 29 (.nilChk (.tmp 21))), ⟨.none, (.store 1 (.tmp 29) (.tmp 28)), .none, [], .none⟩]) (.seq (.ops [(qS 30 (.mv (.tmp 0))), (qS 31 (.nilChk (.tmp 30))), (qS 32 (.load 1 false (.tmp 31))), (qS 2 (.mv (.tmp 32)))]) .ret))))), [(.tmp 2)]⟩

/-- A walk's heap: the two functions, and a cell with a random number. -/
structure FrU (L : LS env α) (H : Heap) (B C : Nat) (h : Heap) (A : Array α) (R : Nat) : Prop where
  lh : L.Lh h A
  keep : KeepS L.n H h
  box : h[B]? = some (.cells [L.less, L.swap])
  cell : h[C]? = some (.cells [uV R])
  low : L.n ≤ B
  lowC : L.n ≤ C
  new : H.length ≤ C
  ne : B ≠ C

theorem FrU.set {L : LS env α} {H h : Heap} {B C R : Nat} {A : Array α} (f : FrU L H B C h A R) (R' : Nat) : FrU L H B C (h.set C (.cells [uV R'])) A R' where
  lh := L.same f.lh (by simp) (fun x hx => List.getElem?_set_ne (by have := f.lowC; omega))
  keep := f.keep.set _ _ f.new
  box := by rw [List.getElem?_set_ne (fun e => f.ne e.symm)]; exact f.box
  cell := List.getElem?_set_self (List.getElem?_eq_some_iff.1 f.cell).1
  low := f.low
  lowC := f.lowC
  new := f.new
  ne := f.ne
def c_sort_breakPatterns_func (f_sort_nextPowerOfTwo : Nat) (f_sort_xorshift_Next : Nat) : AFn := ⟨54, (.seq (.ops [(qS 3 (.box (.tmp 0)))]) (.seq (.ops [(qS 11 (.mv (.tmp 2))), (qS 12 (.mv (.tmp 1))), (qS 13 (.pu (.n (.ar .sub)) [(.tmp 11), (.tmp 12)])), (qS 6 (.mv (.tmp 13)))]) (.seq (.ops [(qS 14 (.mv (.tmp 6))), (qS 15 (.pu (.n (.ar .geq)) [(.tmp 14), (ic 8)]))]) (.cond (.tmp 15) (.seq (.ops [(qS 16 (.mv (.tmp 6))), (qS 17 (.pu (.n (.conv .u64)) [(.tmp 16)])), (qS 7 (.allocV [(0, false)] [(.int .u64 0)])), ⟨.none, (.storeV [(0, false)] 1 (.tmp 7) (.tmp 17)), .none, [], .none⟩]) (.seq (.ops [(qS 18 (.mv (.tmp 6))), (qS 19 (.call (2 * f_sort_nextPowerOfTwo) [(.tmp 18)])), (qS 8 (.mv (.tmp 19)))]) (.seq (.ops [(qS 20 (.mv (.tmp 1))), (qS 21 (.mv (.tmp 6))), (qS 22 (.pu (.n (.ar .quo)) [(.tmp 21), (ic 4)])), (qS 23 (.pu (.n (.ar .mul)) [(.tmp 22), (ic 2)])), (qS 24 (.pu (.n (.ar .add)) [(.tmp 20), (.tmp 23)])), (qS 25 (.pu (.n (.ar .sub)) [(.tmp 24), (ic 1)])), (qS 9 (.mv (.tmp 25)))]) (.block 0 (.loop (.seq (.seq (.ops [(qS 26 (.mv (.tmp 9))), (qS 27 (.mv (.tmp 1))), (qS 28 (.mv (.tmp 6))), (qS 29 (.pu (.n (.ar .quo)) [(.tmp 28), (ic 4)])), (qS 30 (.pu (.n (.ar .mul)) [(.tmp 29), (ic 2)])), (qS 31 (.pu (.n (.ar .add)) [(.tmp 27), (.tmp 30)])), (qS 32 (.pu (.n (.ar .add)) [(.tmp 31), (ic 1)])), (qS 33 (.pu (.n (.ar .leq)) [(.tmp 26), (.tmp 32)]))]) (.cond (.tmp 33) .skip (.exit 0))) (.seq (.block 1 (.seq (.ops [(qS 36 (.call (2 * f_sort_xorshift_Next + 1) [(.tmp 7)])), (qS 37 (.mv (.tmp 8))), (qS 38 (.pu (.n (.ar .sub)) [(.tmp 37), (.const (.int .u64 1))])), (qS 39 (.pu (.n (.ar .and)) [(.tmp 36), (.tmp 38)])), (qS 40 (.pu (.n (.conv .i64)) [(.tmp 39)])), (qS 10 (.mv (.tmp 40)))]) (.seq (.seq (.ops [(qS 41 (.mv (.tmp 10))), (qS 42 (.mv (.tmp 6))), (qS 43 (.pu (.n (.ar .geq)) [(.tmp 41), (.tmp 42)]))]) (.cond (.tmp 43) (.ops [(qS 44 (.mv (.tmp 10))), (qS 45 (.mv (.tmp 6))), (qS 46 (.pu (.n (.ar .sub)) [(.tmp 44), (.tmp 45)])), (qS 10 (.mv (.tmp 46)))]) .skip)) (.ops [(qS 47 (.fieldA 1 (.tmp 3))), (qS 48 (.load 1 false (.tmp 47))), (qS 49 (.mv (.tmp 9))), (qS 50 (.mv (.tmp 1))), (qS 51 (.mv (.tmp 10))), (qS 52 (.pu (.n (.ar .add)) [(.tmp 50), (.tmp 51)])), (qS 53 (.dyn (.tmp 48) [(.tmp 49), (.tmp 52)]))])))) (.ops [(qS 34 (.mv (.tmp 9))), (qS 35 (.pu (.n (.ar .add)) [(.tmp 34), (ic 1)])), (qS 9 (.mv (.tmp 35)))])))))))) .skip)))), []⟩

end Go.AM

set_option linter.unusedVariables false
set_option linter.unusedSimpArgs false
set_option maxRecDepth 20000
namespace Go.AM
open Go.Sort
variable {P : Program} {env : Env} {α : Type} [Inhabited α]

def c_sort_pdqsort_func (f_sort_insertionSort_func : Nat) (f_sort_heapSort_func : Nat) (f_sort_breakPatterns_func : Nat) (f_sort_choosePivot_func : Nat) (f_sort_reverseRange_func : Nat) (f_sort_partialInsertionSort_func : Nat) (f_sort_partitionEqual_func : Nat) (f_sort_partition_func : Nat) (f_sort_pdqsort_func : Nat) : AFn := ⟨130, (.seq (.ops [(qS 4 (.box (.tmp 0)))]) (.seq (.ops [(qS 8 (.mv (.const (.bool true))))]) (.seq (.ops [(qS 9 (.mv (.const (.bool true))))]) (.block 0 (.loop (.block 1 (.seq (.ops [(qS 19 (.mv (.tmp 2))), (qS 20 (.mv (.tmp 1))), (qS 21 (.pu (.n (.ar .sub)) [(.tmp 19), (.tmp 20)])), (qS 10 (.mv (.tmp 21)))]) (.seq (.seq (.ops [(qS 22 (.mv (.tmp 10))), (qS 23 (.pu (.n (.ar .leq)) [(.tmp 22), (ic 12)]))]) (.cond (.tmp 23) (.seq (.ops [(qS 24 (.load 2 true (.tmp 4))), (qS 25 (.mv (.tmp 1))), (qS 26 (.mv (.tmp 2))), (qS 27 (.call (2 * f_sort_insertionSort_func + 1) [(.tmp 24), (.tmp 25), (.tmp 26)]))]) .ret) .skip)) (.seq (.seq (.ops [(qS 28 (.mv (.tmp 3))), (qS 29 (.pu (.n (.ar .eql)) [(.tmp 28), (ic 0)]))]) (.cond (.tmp 29) (.seq (.ops [(qS 30 (.load 2 true (.tmp 4))), (qS 31 (.mv (.tmp 1))), (qS 32 (.mv (.tmp 2))), (qS 33 (.call (2 * f_sort_heapSort_func + 1) [(.tmp 30), (.tmp 31), (.tmp 32)]))]) .ret) .skip)) (.seq (.seq (.ops [(qS 34 (.mv (.tmp 8))), (qS 35 (.pu (.n (.un .not)) [(.tmp 34)]))]) (.cond (.tmp 35) (.seq (.ops [(qS 36 (.load 2 true (.tmp 4))), (qS 37 (.mv (.tmp 1))), (qS 38 (.mv (.tmp 2))), (qS 39 (.call (2 * f_sort_breakPatterns_func + 1) [(.tmp 36), (.tmp 37), (.tmp 38)]))]) (.ops [(qS 40 (.mv (.tmp 3))), (qS 41 (.pu (.n (.ar .sub)) [(.tmp 40), (ic 1)])), (qS 3 (.mv (.tmp 41)))])) .skip)) (.seq (.ops [(qS 43 (.load 2 true (.tmp 4))), (qS 44 (.mv (.tmp 1))), (qS 45 (.mv (.tmp 2))), (qS 46 (.call (2 * f_sort_choosePivot_func + 1) [(.tmp 43), (.tmp 44), (.tmp 45)])), (qS 42 (.mv (.tmp 46))), (qS 47 (.extract 0 (.tmp 42))), (qS 48 (.extract 1 (.tmp 42))), (qS 11 (.mv (.tmp 47))), (qS 12 (.mv (.tmp 48)))]) (.seq (.seq (.ops [(qS 49 (.mv (.tmp 12))), (qS 50 (.pu (.n (.ar .eql)) [(.tmp 49), (ic 2)]))]) (.cond (.tmp 50) (.seq (.ops [(qS 51 (.load 2 true (.tmp 4))), (qS 52 (.mv (.tmp 1))), (qS 53 (.mv (.tmp 2))), (qS 54 (.call (2 * f_sort_reverseRange_func + 1) [(.tmp 51), (.tmp 52), (.tmp 53)]))]) (.seq (.ops [(qS 55 (.mv (.tmp 2))), (qS 56 (.pu (.n (.ar .sub)) [(.tmp 55), (ic 1)])), (qS 57 (.mv (.tmp 11))), (qS 58 (.mv (.tmp 1))), (qS 59 (.pu (.n (.ar .sub)) [(.tmp 57), (.tmp 58)])), (qS 60 (.pu (.n (.ar .sub)) [(.tmp 56), (.tmp 59)])), (qS 11 (.mv (.tmp 60)))]) (.ops [(qS 12 (.mv (ic 1)))]))) .skip)) (.seq (.seq (.ops [(qS 61 (.mv (.tmp 8))), (qS 62 (.mv (.tmp 61))), ⟨(.some 63), (.mv (.tmp 9)), (.some (62, true)), [], .none⟩, (qS 64 (.pick (.tmp 62) (.tmp 63) (.const (.bool false)))), (qS 65 (.mv (.tmp 64))), ⟨(.some 66), (.mv (.tmp 12)), (.some (65, true)), [], .none⟩, ⟨(.some 67), (.pu (.n (.ar .eql)) [(.tmp 66), (ic 1)]), (.some (65, true)), [], .none⟩, (qS 68 (.pick (.tmp 65) (.tmp 67) (.const (.bool false))))]) (.cond (.tmp 68) (.seq (.ops [(qS 69 (.load 2 true (.tmp 4))), (qS 70 (.mv (.tmp 1))), (qS 71 (.mv (.tmp 2))), (qS 72 (.call (2 * f_sort_partialInsertionSort_func + 1) [(.tmp 69), (.tmp 70), (.tmp 71)]))]) (.cond (.tmp 72) .ret .skip)) .skip)) (.seq (.seq (.ops [(qS 73 (.mv (.tmp 1))), (qS 74 (.pu (.n (.ar .gtr)) [(.tmp 73), (ic 0)])), (qS 75 (.mv (.tmp 74))), ⟨(.some 76), (.fieldA 0 (.tmp 4)), (.some (75, true)), [], .none⟩, ⟨(.some 77), (.load 1 false (.tmp 76)), (.some (75, true)), [], .none⟩, ⟨(.some 78), (.mv (.tmp 1)), (.some (75, true)), [], .none⟩, ⟨(.some 79), (.pu (.n (.ar .sub)) [(.tmp 78), (ic 1)]), (.some (75, true)), [], .none⟩, ⟨(.some 80), (.mv (.tmp 11)), (.some (75, true)), [], .none⟩, ⟨(.some 81), (.dyn (.tmp 77) [(.tmp 79), (.tmp 80)]), (.some (75, true)), [], .none⟩, ⟨(.some 82), (.pu (.n (.un .not)) [(.tmp 81)]), (.some (75, true)), [], .none⟩, (qS 83 (.pick (.tmp 75) (.tmp 82) (.const (.bool false))))]) (.cond (.tmp 83) (.seq (.ops [(qS 84 (.load 2 true (.tmp 4))), (qS 85 (.mv (.tmp 1))), (qS 86 (.mv (.tmp 2))), (qS 87 (.mv (.tmp 11))), (qS 88 (.call (2 * f_sort_partitionEqual_func + 1) [(.tmp 84), (.tmp 85), (.tmp 86), (.tmp 87)])), (qS 13 (.mv (.tmp 88)))]) (.seq (.ops [(qS 89 (.mv (.tmp 13))), (qS 1 (.mv (.tmp 89)))]) (.exit 1))) .skip)) (.seq (.ops [(qS 91 (.load 2 true (.tmp 4))), (qS 92 (.mv (.tmp 1))), (qS 93 (.mv (.tmp 2))), (qS 94 (.mv (.tmp 11))), (qS 95 (.call (2 * f_sort_partition_func + 1) [(.tmp 91), (.tmp 92), (.tmp 93), (.tmp 94)])), (qS 90 (.mv (.tmp 95))), (qS 96 (.extract 0 (.tmp 90))), (qS 97 (.extract 1 (.tmp 90))), (qS 14 (.mv (.tmp 96))), (qS 15 (.mv (.tmp 97)))]) (.seq (.ops [(qS 98 (.mv (.tmp 15))), (qS 9 (.mv (.tmp 98)))]) (.seq (.ops [(qS 99 (.mv (.tmp 14))), (qS 100 (.mv (.tmp 1))), (qS 101 (.pu (.n (.ar .sub)) [(.tmp 99), (.tmp 100)])), (qS 102 (.mv (.tmp 2))), (qS 103 (.mv (.tmp 14))), (qS 104 (.pu (.n (.ar .sub)) [(.tmp 102), (.tmp 103)])), (qS 16 (.mv (.tmp 101))), (qS 17 (.mv (.tmp 104)))]) (.seq (.ops [(qS 105 (.mv (.tmp 10))), (qS 106 (.pu (.n (.ar .quo)) [(.tmp 105), (ic 8)])), (qS 18 (.mv (.tmp 106)))]) (.seq (.ops [(qS 107 (.mv (.tmp 16))), (qS 108 (.mv (.tmp 17))), (qS 109 (.pu (.n (.ar .lss)) [(.tmp 107), (.tmp 108)]))]) (.cond (.tmp 109) (.seq (.ops [(qS 110 (.mv (.tmp 16))), (qS 111 (.mv (.tmp 18))), (qS 112 (.pu (.n (.ar .geq)) [(.tmp 110), (.tmp 111)])), (qS 8 (.mv (.tmp 112)))]) (.seq (.ops [(qS 113 (.load 2 true (.tmp 4))), (qS 114 (.mv (.tmp 1))), (qS 115 (.mv (.tmp 14))), (qS 116 (.mv (.tmp 3))), (qS 117 (.call (2 * f_sort_pdqsort_func + 1) [(.tmp 113), (.tmp 114), (.tmp 115), (.tmp 116)]))]) (.ops [(qS 118 (.mv (.tmp 14))), (qS 119 (.pu (.n (.ar .add)) [(.tmp 118), (ic 1)])), (qS 1 (.mv (.tmp 119)))]))) (.seq (.ops [(qS 120 (.mv (.tmp 17))), (qS 121 (.mv (.tmp 18))), (qS 122 (.pu (.n (.ar .geq)) [(.tmp 120), (.tmp 121)])), (qS 8 (.mv (.tmp 122)))]) (.seq (.ops [(qS 123 (.load 2 true (.tmp 4))), (qS 124 (.mv (.tmp 14))), (qS 125 (.pu (.n (.ar .add)) [(.tmp 124), (ic 1)])), (qS 126 (.mv (.tmp 2))), (qS 127 (.mv (.tmp 3))), (qS 128 (.call (2 * f_sort_pdqsort_func + 1) [(.tmp 123), (.tmp 125), (.tmp 126), (.tmp 127)]))]) (.ops [(qS 129 (.mv (.tmp 14))), (qS 2 (.mv (.tmp 129)))]))))))))))))))))))))))), []⟩

/-! ### The round, in stages -/
section
variable (lt : α → α → Bool)
end

/-- What the functions that it calls do. -/
structure PdqK (L : LS env α) (fI fH fB fC fR fP fE fT fS N : Nat) : Prop where
  ki : ∀ {H : Heap} {A : Array α}, L.Lh H A → ∀ a b : Nat, a ≤ L.sz → b ≤ L.sz → CS L (2 * fI + 1) [.agg [L.less, L.swap], nV a, nV b] H (insertionSort L.lt A a b) (.tup [])
  kh : ∀ {H : Heap} {A : Array α}, L.Lh H A → ∀ a b : Nat, a + 2 ≤ b → b ≤ L.sz → CS L (2 * fH + 1) [.agg [L.less, L.swap], nV a, nV b] H (heapSort L.lt A a b) (.tup [])
  kb : ∀ {H : Heap} {A : Array α}, L.Lh H A → ∀ a b : Nat, a ≤ b → b ≤ L.sz → CS L (2 * fB + 1) [.agg [L.less, L.swap], nV a, nV b] H (breakPatterns A a b) (.tup [])
  kc : ∀ {H : Heap} {A : Array α}, L.Lh H A → ∀ a b : Nat, a < b → b ≤ L.sz → CS L (2 * fC + 1) [.agg [L.less, L.swap], nV a, nV b] H A (.tup [nV (choosePivot L.lt A a b).1, nV (hintN (choosePivot L.lt A a b).2)])
  kr : ∀ {H : Heap} {A : Array α}, L.Lh H A → ∀ a b : Nat, a < b → b ≤ L.sz → CS L (2 * fR + 1) [.agg [L.less, L.swap], nV a, nV b] H (reverseRange A a b) (.tup [])
  kp : ∀ {H : Heap} {A : Array α}, L.Lh H A → ∀ a b : Nat, a < b → b ≤ L.sz → CS L (2 * fP + 1) [.agg [L.less, L.swap], nV a, nV b] H (partialInsertionSort L.lt A a b).1 (.i (.s (.bool (partialInsertionSort L.lt A a b).2)))
  ke : ∀ {H : Heap} {A : Array α}, L.Lh H A → ∀ a b p : Nat, a < b → b ≤ L.sz → p < b → CS L (2 * fE + 1) [.agg [L.less, L.swap], nV a, nV b, nV p] H (partitionEqual L.lt A a b p).2 (nV (partitionEqual L.lt A a b p).1)
  kt : ∀ {H : Heap} {A : Array α}, L.Lh H A → ∀ a b p : Nat, a < b → b ≤ L.sz → p < b → CS L (2 * fT + 1) [.agg [L.less, L.swap], nV a, nV b, nV p] H (partition L.lt A a b p).2.2 (.tup [nV (partition L.lt A a b p).1, .i (.s (.bool (partition L.lt A a b p).2.1))])
  ks : ∀ {H : Heap} {A : Array α}, L.Lh H A → ∀ a b lim : Nat, a ≤ b → b ≤ L.sz → b - a < N → lim < 4611686018427387904 → CS L (2 * fS + 1) [.agg [L.less, L.swap], nV a, nV b, nV lim] H (pdq L.lt A a b lim true true) (.tup [])

end Go.AM

set_option linter.unusedVariables false
set_option linter.unusedSimpArgs false
set_option maxRecDepth 20000
namespace Go.AM
open Go.Sort

abbrev sV (v : Value) : V := .i (.s v)

end Go.AM

set_option linter.unusedVariables false
set_option linter.unusedSimpArgs false
namespace Go.AM
open Go.Sort

/-- The environment in which the functions of T may be called, n deep. -/
noncomputable def envN (P : Program) (base : Env) (T : Nat → Option AFn) : Nat → Env
  | 0 => base
  | n + 1 => fun c slot args h => if c % 2 = 0 then base c slot args h else match T (c / 2) with
    | some F => runFn P (envN P base T n) F args h
    | none => base c slot args h

section
variable {P : Program} {base : Env} {T : Nat → Option AFn} {α : Type} [Inhabited α]

theorem envN_even {n f : Nat} : envN P base T n (2 * f) = base (2 * f) := by
  cases n with
  | zero => rfl
  | succ n =>
    funext slot args h
    simp only [envN]
    rw [if_pos (by omega)]
theorem envN_odd {n f : Nat} {F : AFn} (hT : T f = some F) : envN P base T (n + 1) (2 * f + 1) = runIn P (envN P base T n) F := by
  funext slot args h
  simp only [envN]
  rw [if_neg (by omega), show (2 * f + 1) / 2 = f by omega, hT]
  rfl
theorem dynV_envN {n : Nat} {f : V} {args : List V} {h : Heap} : dynV (envN P base T n) f args h = dynV base f args h := by
  cases f <;> simp only [dynV, envN_even]

/-- The same order and row, further up. -/
def LS.at (L : LS base α) (P : Program) (T : Nat → Option AFn) (n : Nat) : LS (envN P base T n) α where
  less := L.less
  swap := L.swap
  lt := L.lt
  n := L.n
  sz := L.sz
  Lh := L.Lh
  low := L.low
  size := L.size
  big := L.big
  oneL := L.oneL
  oneS := L.oneS
  nilL := L.nilL
  nilS := L.nilS
  same := L.same
  lessW hL i j hi hj := by rw [dynV_envN]; exact L.lessW hL i j hi hj
  swapW hL i j hi hj := by
    obtain ⟨h', h1, h2⟩ := L.swapW hL i j hi hj
    exact ⟨h', by rw [dynV_envN]; exact h1, h2⟩

theorem CS.step {L : LS base α} {n f : Nat} {F : AFn} {args : List V} {H : Heap} {A' : Array α} {v0 : V} (hT : T f = some F) (h : R P (envN P base T n) F args H (PostS (L.at P T n) H A' v0)) : CS (L.at P T (n + 1)) (2 * f + 1) args H A' v0 := by
  obtain ⟨⟨v, h'⟩, h1, h2⟩ := h
  have p : PostS (L.at P T n) H A' v0 v h' := h2
  refine ⟨h', ?_, p.lh, p.keep⟩
  rw [envN_odd hT]
  exact h1.trans (by rw [p.val])
theorem CP.step {L : LS base α} {n f C s : Nat} {F : AFn} {args : List V} {H : Heap} {A : Array α} {v0 : V} (hT : T f = some F) (h : R P (envN P base T n) F args H (PostP (L.at P T n) C s H A v0)) : CP (L.at P T (n + 1)) (2 * f + 1) args C s H A v0 := by
  obtain ⟨⟨v, h'⟩, h1, h2⟩ := h
  have p : PostP (L.at P T n) C s H A v0 v h' := h2
  refine ⟨h', ?_, p.lh, p.keep, p.cell⟩
  rw [envN_odd hT]
  exact h1.trans (by rw [p.val])

/-- Which code is whose. -/
structure SortT (T : Nat → Option AFn) (fI fH fB fC fR fP fE fT fS fD fO fM fA fX fN : Nat) : Prop where
  tI : T fI = some c_sort_insertionSort_func
  tD : T fD = some c_sort_siftDown_func
  tH : T fH = some (c_sort_heapSort_func fD)
  tR : T fR = some c_sort_reverseRange_func
  tP : T fP = some c_sort_partialInsertionSort_func
  tE : T fE = some c_sort_partitionEqual_func
  tT : T fT = some c_sort_partition_func
  tO : T fO = some c_sort_order2_func
  tM : T fM = some (c_sort_median_func fO)
  tA : T fA = some (c_sort_medianAdjacent_func fM)
  tC : T fC = some (c_sort_choosePivot_func fA fM)
  tX : T fX = some c_sort_xorshift_Next
  tB : T fB = some (c_sort_breakPatterns_func fN fX)
  tS : T fS = some (c_sort_pdqsort_func fI fH fB fC fR fP fE fT fS)

variable {fI fH fB fC fR fP fE fT fS fD fO fM fA fX fN : Nat}

end
end Go.AM

set_option linter.unusedVariables false
set_option linter.unusedSimpArgs false
namespace Go.AM
open Go.Sort Go.Shelf

end Go.AM

set_option linter.unusedVariables false
set_option linter.unusedSimpArgs false
namespace Go.AM
open Go.Sort

/-- Structs of scalars. -/
structure Scal (α : Type) [Pic α] where
  encS : α → List Value
  hE : ∀ x, cellsV x = (encS x).map sV
  hz : ∀ x, (encS x).length = Pic.z α
  hp : ∀ x, (encS x).all plain = true
  z0 : 0 < Pic.z α

section
variable {α : Type} [Pic α] [Inhabited α]
/-- A row that the sort may turn, all below it standing still. -/
structure RowH (b len : Nat) (H0 H : Heap) (A : Array α) : Prop where
  size : A.size = len
  le : H0.length ≤ H.length
  row : H[b]? = some (.cells (rows A.toList))
  keep : ∀ x, x < H0.length → x ≠ b → H[x]? = H0[x]?

end
end Go.AM

set_option linter.unusedVariables false
set_option linter.unusedSimpArgs false
namespace Go.AM
open Pic (enc dec dec_enc dec_sub)
open PicA (encA decA decA_encA decA_sub)

/-- A list behind a pointer. -/
structure PtrL (α : Type) where
  l : List α
def decPtrL {α : Type} [Pic α] : I → Option (PtrL α)
  | .ip [x] => (dec x).map PtrL.mk
  | _ => none
instance {α : Type} [Pic α] : Pic (PtrL α) where
  z := 1
  ag := false
  enc p := .ip [enc p.l]
  dec := decPtrL
  dec_enc x := by simp [decPtrL, dec_enc]
  len x := rfl
  pos := by decide
  one := .inr rfl
  row x := rfl
  dec_sub x a h := by
    unfold decPtrL at h
    split at h
    · obtain ⟨l, h1, rfl⟩ := Option.map_eq_some_iff.1 h
      exact .ip (.cons (dec_sub _ _ h1) .nil)
    · cases h

theorem gc_app {h l : Heap} {b g : Nat} {cs : List V} (hc : getCells h b g = some cs) : getCells (h ++ l) b g = some cs := by rw [gc_left (gc_lt hc)]; exact hc
end Go.AM

set_option linter.unusedVariables false
set_option linter.unusedSimpArgs false
set_option maxRecDepth 20000
namespace Go.AM
open Pic (enc dec dec_enc dec_sub)
open PicA (encA decA decA_encA decA_sub)
noncomputable def p_impl_reader_num_l0 (x0 : TReader) : Int × Int × Int → Option (Lp (Int × Int × Int) (T2 Int TReader))
  | (s0, s1, s2) =>
    if (x0.bad) = true then
      some (.out (s0, s1, s2))
    else
      if (decide ((x0.b.length : Int) ≤ s0)) = true then
        some (.ret ⟨0, (TReader.mk x0.b s0 true)⟩)
      else
        if (decide (56 < s2)) = true then
          some (.ret ⟨0, (TReader.mk x0.b s0 true)⟩)
        else
          (get? x0.b s0).bind fun v6 =>
          if (decide (s2 = 56)) = true then
            if (decide (63 < v6.v)) = true then
              some (.ret ⟨0, (TReader.mk x0.b (w64 (s0 + 1)) true)⟩)
            else
              (shl? .u64 (IntKind.wrap .u64 (andI .u8 v6.v 127)) s2).bind fun v9 =>
              if (decide (v6.v < 128)) = true then
                if (decide (v6.v = 0)) = true then
                  if (decide (0 < s2)) = true then
                    some (.ret ⟨0, (TReader.mk x0.b (w64 (s0 + 1)) true)⟩)
                  else
                    some (.ret ⟨w64 (orI .u64 s1 v9), (TReader.mk x0.b (w64 (s0 + 1)) x0.bad)⟩)
                else
                  some (.ret ⟨w64 (orI .u64 s1 v9), (TReader.mk x0.b (w64 (s0 + 1)) x0.bad)⟩)
              else
                some (.go (w64 (s0 + 1), orI .u64 s1 v9, IntKind.wrap .u64 (s2 + 7)))
          else
            (shl? .u64 (IntKind.wrap .u64 (andI .u8 v6.v 127)) s2).bind fun v13 =>
            if (decide (v6.v < 128)) = true then
              if (decide (v6.v = 0)) = true then
                if (decide (0 < s2)) = true then
                  some (.ret ⟨0, (TReader.mk x0.b (w64 (s0 + 1)) true)⟩)
                else
                  some (.ret ⟨w64 (orI .u64 s1 v13), (TReader.mk x0.b (w64 (s0 + 1)) x0.bad)⟩)
              else
                some (.ret ⟨w64 (orI .u64 s1 v13), (TReader.mk x0.b (w64 (s0 + 1)) x0.bad)⟩)
            else
              some (.go (w64 (s0 + 1), orI .u64 s1 v13, IntKind.wrap .u64 (s2 + 7)))
noncomputable def p_impl_reader_num (x0 : TReader) : Option (T2 Int TReader) :=
  (loopP (p_impl_reader_num_l0 x0) (x0.at_, 0, 0)).bind fun ee0 => match ee0 with
  | .ret r => some r
  | .out (o17, o18, o19) =>
    some ⟨0, (TReader.mk x0.b o17 x0.bad)⟩
def c_impl_reader_num : AFn := ⟨76, (.seq (.ops [(qS 2 (.mv (ic 0)))]) (.seq (.ops [(qS 3 (.mv (.const (.int .u64 0)))), (qS 4 (.mv (.const (.int .u64 0))))]) (.seq (.block 0 (.loop (.seq (.seq (.ops [(qS 6 (.mv (.tmp 0))), (qS 7 (.nilChk (.tmp 6))), (qS 8 (.fieldA 2 (.tmp 7))), (qS 9 (.load 1 false (.tmp 8))), (qS 10 (.pu (.n (.un .not)) [(.tmp 9)]))]) (.cond (.tmp 10) .skip (.exit 0))) (.block 1 (.seq (.seq (.ops [(qS 11 (.mv (.tmp 0))), (qS 12 (.nilChk (.tmp 11))), (qS 13 (.fieldA 1 (.tmp 12))), (qS 14 (.load 1 false (.tmp 13))), (qS 15 (.mv (.tmp 0))), (qS 16 (.nilChk (.tmp 15))), (qS 17 (.fieldA 0 (.tmp 16))), (qS 18 (.load 1 false (.tmp 17))), (qS 19 (.len (.tmp 18))), (qS 20 (.pu (.n (.ar .geq)) [(.tmp 14), (.tmp 19)])), (qS 21 (.mv (.tmp 20))), ⟨(.some 22), (.mv (.tmp 4)), (.some (21, false)), [], .none⟩, ⟨(.some 23), (.pu (.n (.ar .gtr)) [(.tmp 22), (.const (.int .u64 56))]), (.some (21, false)), [], .none⟩, (qS 24 (.pick (.tmp 21) (.const (.bool true)) (.tmp 23)))]) (.cond (.tmp 24) (.seq (.ops [(qS 25 (.mv (.tmp 0))), (qS 26 (.nilChk (.tmp 25))), (qS 27 (.fieldA 2 (.tmp 26))), ⟨.none, (.storeV [(0, false)] 1 (.tmp 27) (.const (.bool true))), .none, [], .none⟩]) (.seq (.ops [(qS 2 (.mv (ic 0)))]) .ret)) .skip)) (.seq (.ops [(qS 28 (.mv (.tmp 0))), (qS 29 (.nilChk (.tmp 28))), (qS 30 (.fieldA 0 (.tmp 29))), (qS 31 (.load 1 false (.tmp 30))), (qS 32 (.mv (.tmp 0))), (qS 33 (.nilChk (.tmp 32))), (qS 34 (.fieldA 1 (.tmp 33))), (qS 35 (.load 1 false (.tmp 34))), (qS 36 (.idxS 1 (.tmp 31) (.tmp 35))), (qS 37 (.load 1 false (.tmp 36))), (qS 5 (.mv (.tmp 37)))]) (.seq (.ops [(qS 38 (.mv (.tmp 0))), (qS 39 (.nilChk (.tmp 38))), (qS 40 (.fieldA 1 (.tmp 39))), (qS 41 (.load 1 false (.tmp 40))), (qS 42 (.pu (.n (.ar .add)) [(.tmp 41), (ic 1)])), (qS 43 (.nilChk (.tmp 38))), (qS 44 (.fieldA 1 (.tmp 43))), ⟨.none, (.storeV [(0, false)] 1 (.tmp 44) (.tmp 42)), .none, [], .none⟩]) (.seq (.seq (.ops [(qS 45 (.mv (.tmp 4))), (qS 46 (.pu (.n (.ar .eql)) [(.tmp 45), (.const (.int .u64 56))])), (qS 47 (.mv (.tmp 46))), ⟨(.some 48), (.mv (.tmp 5)), (.some (47, true)), [], .none⟩, ⟨(.some 49), (.pu (.n (.ar .gtr)) [(.tmp 48), (.const (.int .u8 63))]), (.some (47, true)), [], .none⟩, (qS 50 (.pick (.tmp 47) (.tmp 49) (.const (.bool false))))]) (.cond (.tmp 50) (.seq (.ops [(qS 51 (.mv (.tmp 0))), (qS 52 (.nilChk (.tmp 51))), (qS 53 (.fieldA 2 (.tmp 52))), ⟨.none, (.storeV [(0, false)] 1 (.tmp 53) (.const (.bool true))), .none, [], .none⟩]) (.seq (.ops [(qS 2 (.mv (ic 0)))]) .ret)) .skip)) (.seq (.ops [(qS 54 (.mv (.tmp 3))), (qS 55 (.mv (.tmp 5))), (qS 56 (.pu (.n (.ar .and)) [(.tmp 55), (.const (.int .u8 127))])), (qS 57 (.pu (.n (.conv .u64)) [(.tmp 56)])), (qS 58 (.mv (.tmp 4))), (qS 59 (.pu (.n (.ar .shl)) [(.tmp 57), (.tmp 58)])), (qS 60 (.pu (.n (.ar .or)) [(.tmp 54), (.tmp 59)])), (qS 3 (.mv (.tmp 60)))]) (.seq (.seq (.ops [(qS 61 (.mv (.tmp 5))), (qS 62 (.pu (.n (.ar .lss)) [(.tmp 61), (.const (.int .u8 128))]))]) (.cond (.tmp 62) (.seq (.seq (.ops [(qS 63 (.mv (.tmp 5))), (qS 64 (.pu (.n (.ar .eql)) [(.tmp 63), (.const (.int .u8 0))])), (qS 65 (.mv (.tmp 64))), ⟨(.some 66), (.mv (.tmp 4)), (.some (65, true)), [], .none⟩, ⟨(.some 67), (.pu (.n (.ar .gtr)) [(.tmp 66), (.const (.int .u64 0))]), (.some (65, true)), [], .none⟩, (qS 68 (.pick (.tmp 65) (.tmp 67) (.const (.bool false))))]) (.cond (.tmp 68) (.seq (.ops [(qS 69 (.mv (.tmp 0))), (qS 70 (.nilChk (.tmp 69))), (qS 71 (.fieldA 2 (.tmp 70))), ⟨.none, (.storeV [(0, false)] 1 (.tmp 71) (.const (.bool true))), .none, [], .none⟩]) (.seq (.ops [(qS 2 (.mv (ic 0)))]) .ret)) .skip)) (.seq (.ops [(qS 72 (.mv (.tmp 3))), (qS 73 (.pu (.n (.conv .i64)) [(.tmp 72)])), (qS 2 (.mv (.tmp 73)))]) .ret)) .skip)) (.ops [(qS 74 (.mv (.tmp 4))), (qS 75 (.pu (.n (.ar .add)) [(.tmp 74), (.const (.int .u64 7))])), (qS 4 (.mv (.tmp 75)))]))))))))))) (.seq (.ops [(qS 2 (.mv (ic 0)))]) .ret)))), [(.tmp 2)]⟩
def i_impl_reader_num (pb0 : Nat) (h : Heap) (b : T2 Int TReader) (v : V) (h2 : Heap) : Prop := Keep [pb0] h h2 ∧ v = .i (.s (.int .i64 b.a)) ∧ getCells h2 pb0 3 = some [.i (.sl 1 (b.b.b.map enc)), .i (.s (.int .i64 b.b.at_)), .i (.s (.bool b.b.bad))]
def k_impl_reader_num (F : Fun) : Prop := ∀ (x0 : TReader) (b : T2 Int TReader), p_impl_reader_num x0 = some b → ∀ (pb0 : Nat) (h : Heap), getCells h pb0 3 = some [.i (.sl 1 (x0.b.map enc)), .i (.s (.int .i64 x0.at_)), .i (.s (.bool x0.bad))] → ∃ p, F none [.ptr pb0 3 0] h = some p ∧ i_impl_reader_num pb0 h b p.1 p.2
set_option maxHeartbeats 10000000 in
theorem w_impl_reader_num {P : Program} {env : Env}  (x0 : TReader) {b : T2 Int TReader} (hp : p_impl_reader_num x0 = some b) (pb0 : Nat) (hh : Heap) (pf0 : getCells hh pb0 3 = some [.i (.sl 1 (x0.b.map enc)), .i (.s (.int .i64 x0.at_)), .i (.s (.bool x0.bad))]) : R P env (c_impl_reader_num) [.ptr pb0 3 0] hh (i_impl_reader_num pb0 hh b) := by
  have pl0 := gc_lt pf0
  refine R_of (by simp [c_impl_reader_num, encA]) ?_
  unfold c_impl_reader_num
  unfold p_impl_reader_num at hp
  obtain ⟨ee0, hee0, hp⟩ := bind_eq hp
  simp (maxSteps := 2000000) (disch := first|omega|(simp only[ls];first|done|omega)) only [pf0, gm]
  refine W_loopP 0 (fun s t h => match s with | (s0, s1, s2) => t 0 = .ptr pb0 3 0 ∧ t 3 = .i (.s (.int .u64 s1)) ∧ t 4 = .i (.s (.int .u64 s2)) ∧ getCells h pb0 3 = some [.i (.sl 1 (x0.b.map enc)), .i (.s (.int .i64 s0)), .i (.s (.bool x0.bad))] ∧ pb0 < h.length ∧ Keep [pb0] hh h) (RK [.tmp 2] (i_impl_reader_num pb0 hh)) ?_ hee0 ?_ ?_
  · rintro ⟨s0, s1, s2⟩ ee tt0 hh0 ⟨ftt0_0, ftt0_1, ftt0_2, ftt0_3, ftt0_4, ftt0_5⟩ hp
    rw [p_impl_reader_num_l0] at hp
    by_cases hb3 : (x0.bad) = true
    · rw [if_t hb3] at hp
      have hp := Option.some.inj hp
      subst hp
      simp (maxSteps := 2000000) (disch := first|omega|(simp only[ls];first|done|omega)) only [i_impl_reader_num, pf0, ftt0_0, ftt0_1, ftt0_2, ftt0_3, ftt0_4, ftt0_5, hb3, gm] <;> (repeat (first | omega | assumption | rfl | exact keep_refl | refine keep_app ?_ | (refine keep_set (by first | (left; simp; done) | (right; simp; omega)) ?_) | refine And.intro ?_ ?_))
    · replace hb3 := eq_false_of_ne_true hb3
      rw [if_f hb3] at hp
      by_cases hb4 : (decide ((x0.b.length : Int) ≤ s0)) = true
      · rw [if_t hb4] at hp
        have hp := Option.some.inj hp
        subst hp
        simp (maxSteps := 2000000) (disch := first|omega|(simp only[ls];first|done|omega)) only [i_impl_reader_num, pf0, ftt0_0, ftt0_1, ftt0_2, ftt0_3, ftt0_4, ftt0_5, hb3, hb4, gm] <;> (repeat (first | omega | assumption | rfl | exact keep_refl | refine keep_app ?_ | (refine keep_set (by first | (left; simp; done) | (right; simp; omega)) ?_) | refine And.intro ?_ ?_))
      · replace hb4 := eq_false_of_ne_true hb4
        rw [if_f hb4] at hp
        by_cases hb5 : (decide (56 < s2)) = true
        · rw [if_t hb5] at hp
          have hp := Option.some.inj hp
          subst hp
          simp (maxSteps := 2000000) (disch := first|omega|(simp only[ls];first|done|omega)) only [i_impl_reader_num, pf0, ftt0_0, ftt0_1, ftt0_2, ftt0_3, ftt0_4, ftt0_5, hb3, hb4, hb5, gm] <;> (repeat (first | omega | assumption | rfl | exact keep_refl | refine keep_app ?_ | (refine keep_set (by first | (left; simp; done) | (right; simp; omega)) ?_) | refine And.intro ?_ ?_))
        · replace hb5 := eq_false_of_ne_true hb5
          rw [if_f hb5] at hp
          obtain ⟨v6, hv6, hp⟩ := bind_eq hp
          by_cases hb7 : (decide (s2 = 56)) = true
          · rw [if_t hb7] at hp
            by_cases hb8 : (decide (63 < v6.v)) = true
            · rw [if_t hb8] at hp
              have hp := Option.some.inj hp
              subst hp
              simp (maxSteps := 2000000) (disch := first|omega|(simp only[ls];first|done|omega)) only [i_impl_reader_num, pf0, ftt0_0, ftt0_1, ftt0_2, ftt0_3, ftt0_4, ftt0_5, hb3, hb4, hb5, hv6, hb7, hb8, gm] <;> (repeat (first | omega | assumption | rfl | exact keep_refl | refine keep_app ?_ | (refine keep_set (by first | (left; simp; done) | (right; simp; omega)) ?_) | refine And.intro ?_ ?_))
            · replace hb8 := eq_false_of_ne_true hb8
              rw [if_f hb8] at hp
              obtain ⟨v9, hv9, hp⟩ := bind_eq hp
              by_cases hb10 : (decide (v6.v < 128)) = true
              · rw [if_t hb10] at hp
                by_cases hb11 : (decide (v6.v = 0)) = true
                · rw [if_t hb11] at hp
                  by_cases hb12 : (decide (0 < s2)) = true
                  · rw [if_t hb12] at hp
                    have hp := Option.some.inj hp
                    subst hp
                    simp (maxSteps := 2000000) (disch := first|omega|(simp only[ls];first|done|omega)) only [i_impl_reader_num, pf0, ftt0_0, ftt0_1, ftt0_2, ftt0_3, ftt0_4, ftt0_5, hb3, hb4, hb5, hv6, hb7, hb8, hv9, hb10, hb11, hb12, gm] <;> (repeat (first | omega | assumption | rfl | exact keep_refl | refine keep_app ?_ | (refine keep_set (by first | (left; simp; done) | (right; simp; omega)) ?_) | refine And.intro ?_ ?_))
                  · replace hb12 := eq_false_of_ne_true hb12
                    rw [if_f hb12] at hp
                    have hp := Option.some.inj hp
                    subst hp
                    simp (maxSteps := 2000000) (disch := first|omega|(simp only[ls];first|done|omega)) only [i_impl_reader_num, pf0, ftt0_0, ftt0_1, ftt0_2, ftt0_3, ftt0_4, ftt0_5, hb3, hb4, hb5, hv6, hb7, hb8, hv9, hb10, hb11, hb12, gm] <;> (repeat (first | omega | assumption | rfl | exact keep_refl | refine keep_app ?_ | (refine keep_set (by first | (left; simp; done) | (right; simp; omega)) ?_) | refine And.intro ?_ ?_))
                · replace hb11 := eq_false_of_ne_true hb11
                  rw [if_f hb11] at hp
                  have hp := Option.some.inj hp
                  subst hp
                  simp (maxSteps := 2000000) (disch := first|omega|(simp only[ls];first|done|omega)) only [i_impl_reader_num, pf0, ftt0_0, ftt0_1, ftt0_2, ftt0_3, ftt0_4, ftt0_5, hb3, hb4, hb5, hv6, hb7, hb8, hv9, hb10, hb11, gm] <;> (repeat (first | omega | assumption | rfl | exact keep_refl | refine keep_app ?_ | (refine keep_set (by first | (left; simp; done) | (right; simp; omega)) ?_) | refine And.intro ?_ ?_))
              · replace hb10 := eq_false_of_ne_true hb10
                rw [if_f hb10] at hp
                have hp := Option.some.inj hp
                subst hp
                simp (maxSteps := 2000000) (disch := first|omega|(simp only[ls];first|done|omega)) only [i_impl_reader_num, pf0, ftt0_0, ftt0_1, ftt0_2, ftt0_3, ftt0_4, ftt0_5, hb3, hb4, hb5, hv6, hb7, hb8, hv9, hb10, gm] <;> (repeat (first | omega | assumption | rfl | exact keep_refl | refine keep_app ?_ | (refine keep_set (by first | (left; simp; done) | (right; simp; omega)) ?_) | refine And.intro ?_ ?_))
          · replace hb7 := eq_false_of_ne_true hb7
            rw [if_f hb7] at hp
            obtain ⟨v13, hv13, hp⟩ := bind_eq hp
            by_cases hb14 : (decide (v6.v < 128)) = true
            · rw [if_t hb14] at hp
              by_cases hb15 : (decide (v6.v = 0)) = true
              · rw [if_t hb15] at hp
                by_cases hb16 : (decide (0 < s2)) = true
                · rw [if_t hb16] at hp
                  have hp := Option.some.inj hp
                  subst hp
                  simp (maxSteps := 2000000) (disch := first|omega|(simp only[ls];first|done|omega)) only [i_impl_reader_num, pf0, ftt0_0, ftt0_1, ftt0_2, ftt0_3, ftt0_4, ftt0_5, hb3, hb4, hb5, hv6, hb7, hv13, hb14, hb15, hb16, gm] <;> (repeat (first | omega | assumption | rfl | exact keep_refl | refine keep_app ?_ | (refine keep_set (by first | (left; simp; done) | (right; simp; omega)) ?_) | refine And.intro ?_ ?_))
                · replace hb16 := eq_false_of_ne_true hb16
                  rw [if_f hb16] at hp
                  have hp := Option.some.inj hp
                  subst hp
                  simp (maxSteps := 2000000) (disch := first|omega|(simp only[ls];first|done|omega)) only [i_impl_reader_num, pf0, ftt0_0, ftt0_1, ftt0_2, ftt0_3, ftt0_4, ftt0_5, hb3, hb4, hb5, hv6, hb7, hv13, hb14, hb15, hb16, gm] <;> (repeat (first | omega | assumption | rfl | exact keep_refl | refine keep_app ?_ | (refine keep_set (by first | (left; simp; done) | (right; simp; omega)) ?_) | refine And.intro ?_ ?_))
              · replace hb15 := eq_false_of_ne_true hb15
                rw [if_f hb15] at hp
                have hp := Option.some.inj hp
                subst hp
                simp (maxSteps := 2000000) (disch := first|omega|(simp only[ls];first|done|omega)) only [i_impl_reader_num, pf0, ftt0_0, ftt0_1, ftt0_2, ftt0_3, ftt0_4, ftt0_5, hb3, hb4, hb5, hv6, hb7, hv13, hb14, hb15, gm] <;> (repeat (first | omega | assumption | rfl | exact keep_refl | refine keep_app ?_ | (refine keep_set (by first | (left; simp; done) | (right; simp; omega)) ?_) | refine And.intro ?_ ?_))
            · replace hb14 := eq_false_of_ne_true hb14
              rw [if_f hb14] at hp
              have hp := Option.some.inj hp
              subst hp
              simp (maxSteps := 2000000) (disch := first|omega|(simp only[ls];first|done|omega)) only [i_impl_reader_num, pf0, ftt0_0, ftt0_1, ftt0_2, ftt0_3, ftt0_4, ftt0_5, hb3, hb4, hb5, hv6, hb7, hv13, hb14, gm] <;> (repeat (first | omega | assumption | rfl | exact keep_refl | refine keep_app ?_ | (refine keep_set (by first | (left; simp; done) | (right; simp; omega)) ?_) | refine And.intro ?_ ?_))
  · simp (maxSteps := 2000000) (disch := first|omega|(simp only[ls];first|done|omega)) only [i_impl_reader_num, pf0, gm] <;> (repeat (first | omega | assumption | rfl | exact keep_refl | refine keep_app ?_ | (refine keep_set (by first | (left; simp; done) | (right; simp; omega)) ?_) | refine And.intro ?_ ?_))
  · intro x tt1 hh1 hx
    rcases ee0 with ⟨o17, o18, o19⟩ | r
    · obtain ⟨rfl, ftt1_0, ftt1_1, ftt1_2, ftt1_3, ftt1_4, ftt1_5⟩ := hx
      dsimp only at hp
      have hp := Option.some.inj hp
      subst hp
      simp (maxSteps := 2000000) (disch := first|omega|(simp only[ls];first|done|omega)) only [i_impl_reader_num, pf0, ftt1_0, ftt1_1, ftt1_2, ftt1_3, ftt1_4, ftt1_5, gm] <;> (repeat (first | omega | assumption | rfl | exact keep_refl | refine keep_app ?_ | (refine keep_set (by first | (left; simp; done) | (right; simp; omega)) ?_) | refine And.intro ?_ ?_))
    · obtain ⟨rfl, hx⟩ := hx
      dsimp only at hp
      cases hp
      simp only [seqK_ret, blockK_ret, retK_RK (K := i_impl_reader_num pb0 hh), hx, and_self, true_and]
theorem ko_impl_reader_num {P : Program} {env : Env}  : k_impl_reader_num (runIn P env (c_impl_reader_num)) := by
  intro x0 b hp pb0 h a0
  exact w_impl_reader_num x0 hp pb0 h a0

noncomputable def p_impl_zag (x0 : Int) : Option Int :=
  if (decide (andI .i64 x0 1 = 1)) = true then
    some (w64 (0 - (w64 (Int.tdiv (w64 (x0 + 1)) 2))))
  else
    some (w64 (Int.tdiv x0 2))
def c_impl_zag : AFn := ⟨12, (.seq (.ops [(qS 2 (.mv (ic 0)))]) (.seq (.seq (.ops [(qS 3 (.mv (.tmp 0))), (qS 4 (.pu (.n (.ar .and)) [(.tmp 3), (ic 1)])), (qS 5 (.pu (.n (.ar .eql)) [(.tmp 4), (ic 1)]))]) (.cond (.tmp 5) (.seq (.ops [(qS 6 (.mv (.tmp 0))), (qS 7 (.pu (.n (.ar .add)) [(.tmp 6), (ic 1)])), (qS 8 (.pu (.n (.ar .quo)) [(.tmp 7), (ic 2)])), (qS 9 (.pu (.n (.un .neg)) [(.tmp 8)])), (qS 2 (.mv (.tmp 9)))]) .ret) .skip)) (.seq (.ops [(qS 10 (.mv (.tmp 0))), (qS 11 (.pu (.n (.ar .quo)) [(.tmp 10), (ic 2)])), (qS 2 (.mv (.tmp 11)))]) .ret))), [(.tmp 2)]⟩
set_option maxHeartbeats 10000000 in
theorem d_impl_zag {P : Program} {env : Env}  (x0 : Int) {b : Int} (hp : p_impl_zag x0 = some b) : R P env (c_impl_zag) ((encA (x0)).map ofI) [] (Tells true b) := by
  refine R_of (by simp [c_impl_zag, encA]) ?_
  unfold c_impl_zag
  unfold p_impl_zag at hp
  by_cases hb0 : (decide (andI .i64 x0 1 = 1)) = true
  · rw [if_t hb0] at hp
    have hp := Option.some.inj hp
    subst hp
    simp (maxSteps := 2000000) (disch := first|omega|(simp only[ls];first|done|omega)) only [hb0, gm]
  · replace hb0 := eq_false_of_ne_true hb0
    rw [if_f hb0] at hp
    have hp := Option.some.inj hp
    subst hp
    simp (maxSteps := 2000000) (disch := first|omega|(simp only[ls];first|done|omega)) only [hb0, gm]

noncomputable def p_impl_runLen_l0 (x0 : List Int) (x1 : Int) (v1 : Int) (v2 : Int) : Int → Option (Lp (Int) Int)
  | s3 =>
    if (decide (w64 (x1 + s3) < (x0.length : Int))) = true then
      (get? x0 (w64 (x1 + s3))).bind fun v5 =>
      (get? x0 (w64 ((w64 (x1 + s3)) - 1))).bind fun v6 =>
      if (decide (w64 (v5 - v6) = w64 (v1 - v2))) = true then
        some (.go (w64 (s3 + 1)))
      else
        some (.out s3)
    else
      some (.out s3)
noncomputable def p_impl_runLen (x0 : List Int) (x1 : Int) : Option Int :=
  if (decide ((x0.length : Int) ≤ w64 (x1 + 1))) = true then
    some 1
  else
    (get? x0 (w64 (x1 + 1))).bind fun v1 =>
    (get? x0 x1).bind fun v2 =>
    (loopP (p_impl_runLen_l0 x0 x1 v1 v2) 2).bind fun ee0 => match ee0 with
    | .ret r => some r
    | .out o8 =>
      some o8
def c_impl_runLen : AFn := ⟨49, (.seq (.ops [(qS 4 (.mv (ic 0)))]) (.seq (.seq (.ops [(qS 7 (.mv (.tmp 1))), (qS 8 (.pu (.n (.ar .add)) [(.tmp 7), (ic 1)])), (qS 9 (.mv (.tmp 0))), (qS 10 (.len (.tmp 9))), (qS 11 (.pu (.n (.ar .geq)) [(.tmp 8), (.tmp 10)]))]) (.cond (.tmp 11) (.seq (.ops [(qS 4 (.mv (ic 1)))]) .ret) .skip)) (.seq (.ops [(qS 12 (.mv (.tmp 0))), (qS 13 (.mv (.tmp 1))), (qS 14 (.pu (.n (.ar .add)) [(.tmp 13), (ic 1)])), (qS 15 (.idxS 1 (.tmp 12) (.tmp 14))), (qS 16 (.load 1 false (.tmp 15))), (qS 17 (.mv (.tmp 0))), (qS 18 (.mv (.tmp 1))), (qS 19 (.idxS 1 (.tmp 17) (.tmp 18))), (qS 20 (.load 1 false (.tmp 19))), (qS 21 (.pu (.n (.ar .sub)) [(.tmp 16), (.tmp 20)])), (qS 5 (.mv (.tmp 21)))]) (.seq (.ops [(qS 6 (.mv (ic 2)))]) (.seq (.block 0 (.loop (.seq (.seq (.ops [(qS 22 (.mv (.tmp 1))), (qS 23 (.mv (.tmp 6))), (qS 24 (.pu (.n (.ar .add)) [(.tmp 22), (.tmp 23)])), (qS 25 (.mv (.tmp 0))), (qS 26 (.len (.tmp 25))), (qS 27 (.pu (.n (.ar .lss)) [(.tmp 24), (.tmp 26)])), (qS 28 (.mv (.tmp 27))), ⟨(.some 29), (.mv (.tmp 0)), (.some (28, true)), [], .none⟩, ⟨(.some 30), (.mv (.tmp 1)), (.some (28, true)), [], .none⟩, ⟨(.some 31), (.mv (.tmp 6)), (.some (28, true)), [], .none⟩, ⟨(.some 32), (.pu (.n (.ar .add)) [(.tmp 30), (.tmp 31)]), (.some (28, true)), [], .none⟩, ⟨(.some 33), (.idxS 1 (.tmp 29) (.tmp 32)), (.some (28, true)), [], .none⟩, ⟨(.some 34), (.load 1 false (.tmp 33)), (.some (28, true)), [], .none⟩, ⟨(.some 35), (.mv (.tmp 0)), (.some (28, true)), [], .none⟩, ⟨(.some 36), (.mv (.tmp 1)), (.some (28, true)), [], .none⟩, ⟨(.some 37), (.mv (.tmp 6)), (.some (28, true)), [], .none⟩, ⟨(.some 38), (.pu (.n (.ar .add)) [(.tmp 36), (.tmp 37)]), (.some (28, true)), [], .none⟩, ⟨(.some 39), (.pu (.n (.ar .sub)) [(.tmp 38), (ic 1)]), (.some (28, true)), [], .none⟩, ⟨(.some 40), (.idxS 1 (.tmp 35) (.tmp 39)), (.some (28, true)), [], .none⟩, ⟨(.some 41), (.load 1 false (.tmp 40)), (.some (28, true)), [], .none⟩, ⟨(.some 42), (.pu (.n (.ar .sub)) [(.tmp 34), (.tmp 41)]), (.some (28, true)), [], .none⟩, ⟨(.some 43), (.mv (.tmp 5)), (.some (28, true)), [], .none⟩, ⟨(.some 44), (.pu (.n (.ar .eql)) [(.tmp 42), (.tmp 43)]), (.some (28, true)), [], .none⟩, (qS 45 (.pick (.tmp 28) (.tmp 44) (.const (.bool false))))]) (.cond (.tmp 45) .skip (.exit 0))) (.block 1 (.ops [(qS 46 (.mv (.tmp 6))), (qS 47 (.pu (.n (.ar .add)) [(.tmp 46), (ic 1)])), (qS 6 (.mv (.tmp 47)))]))))) (.seq (.ops [(qS 48 (.mv (.tmp 6))), (qS 4 (.mv (.tmp 48)))]) .ret)))))), [(.tmp 4)]⟩
set_option maxHeartbeats 10000000 in
theorem d_impl_runLen {P : Program} {env : Env}  (x0 : List Int) (x1 : Int) {b : Int} (hp : p_impl_runLen x0 x1 = some b) : R P env (c_impl_runLen) ((encA (x0, x1)).map ofI) [] (Tells true b) := by
  refine R_of (by simp [c_impl_runLen, encA]) ?_
  unfold c_impl_runLen
  unfold p_impl_runLen at hp
  by_cases hb0 : (decide ((x0.length : Int) ≤ w64 (x1 + 1))) = true
  · rw [if_t hb0] at hp
    have hp := Option.some.inj hp
    subst hp
    simp (maxSteps := 2000000) (disch := first|omega|(simp only[ls];first|done|omega)) only [hb0, gm]
  · replace hb0 := eq_false_of_ne_true hb0
    rw [if_f hb0] at hp
    obtain ⟨v1, hv1, hp⟩ := bind_eq hp
    obtain ⟨v2, hv2, hp⟩ := bind_eq hp
    obtain ⟨ee0, hee0, hp⟩ := bind_eq hp
    simp (maxSteps := 2000000) (disch := first|omega|(simp only[ls];first|done|omega)) only [hb0, hv1, hv2, gm]
    refine W_loopP 0 (fun s t h => match s with | s3 => t 0 = .i (.sl 1 (x0.map enc)) ∧ t 1 = .i (.s (.int .i64 x1)) ∧ t 5 = .i (.s (.int .i64 (w64 (v1 - v2)))) ∧ t 6 = .i (.s (.int .i64 s3))) (RK [.tmp 4] (Tells true)) ?_ hee0 ?_ ?_
    · rintro s3 ee tt0 hh0 ⟨ftt0_0, ftt0_1, ftt0_2, ftt0_3⟩ hp
      rw [p_impl_runLen_l0] at hp
      by_cases hb4 : (decide (w64 (x1 + s3) < (x0.length : Int))) = true
      · rw [if_t hb4] at hp
        obtain ⟨v5, hv5, hp⟩ := bind_eq hp
        obtain ⟨v6, hv6, hp⟩ := bind_eq hp
        by_cases hb7 : (decide (w64 (v5 - v6) = w64 (v1 - v2))) = true
        · rw [if_t hb7] at hp
          have hp := Option.some.inj hp
          subst hp
          simp (maxSteps := 2000000) (disch := first|omega|(simp only[ls];first|done|omega)) only [hb0, hv1, hv2, ftt0_0, ftt0_1, ftt0_2, ftt0_3, hb4, hv5, hv6, hb7, gm] <;> omega
        · replace hb7 := eq_false_of_ne_true hb7
          rw [if_f hb7] at hp
          have hp := Option.some.inj hp
          subst hp
          simp (maxSteps := 2000000) (disch := first|omega|(simp only[ls];first|done|omega)) only [hb0, hv1, hv2, ftt0_0, ftt0_1, ftt0_2, ftt0_3, hb4, hv5, hv6, hb7, gm] <;> omega
      · replace hb4 := eq_false_of_ne_true hb4
        rw [if_f hb4] at hp
        have hp := Option.some.inj hp
        subst hp
        simp (maxSteps := 2000000) (disch := first|omega|(simp only[ls];first|done|omega)) only [hb0, hv1, hv2, ftt0_0, ftt0_1, ftt0_2, ftt0_3, hb4, gm] <;> omega
    · simp (maxSteps := 2000000) (disch := first|omega|(simp only[ls];first|done|omega)) only [hb0, hv1, hv2, gm] <;> omega
    · intro x tt1 hh1 hx
      rcases ee0 with o8 | r
      · obtain ⟨rfl, ftt1_0, ftt1_1, ftt1_2, ftt1_3⟩ := hx
        dsimp only at hp
        have hp := Option.some.inj hp
        subst hp
        simp (maxSteps := 2000000) (disch := first|omega|(simp only[ls];first|done|omega)) only [hb0, hv1, hv2, ftt1_0, ftt1_1, ftt1_2, ftt1_3, gm]
      · obtain ⟨rfl, hx⟩ := hx
        dsimp only at hp
        cases hp
        simp only [seqK_ret, blockK_ret, retK_RK (K := Tells true), hx, and_self, true_and]

noncomputable def p_impl_zig (x0 : Int) : Option Int :=
  if (decide (x0 < 0)) = true then
    some (w64 ((w64 ((-2) * x0)) - 1))
  else
    some (w64 (2 * x0))
def c_impl_zig : AFn := ⟨10, (.seq (.ops [(qS 2 (.mv (ic 0)))]) (.seq (.seq (.ops [(qS 3 (.mv (.tmp 0))), (qS 4 (.pu (.n (.ar .lss)) [(.tmp 3), (ic 0)]))]) (.cond (.tmp 4) (.seq (.ops [(qS 5 (.mv (.tmp 0))), (qS 6 (.pu (.n (.ar .mul)) [(ic (-2)), (.tmp 5)])), (qS 7 (.pu (.n (.ar .sub)) [(.tmp 6), (ic 1)])), (qS 2 (.mv (.tmp 7)))]) .ret) .skip)) (.seq (.ops [(qS 8 (.mv (.tmp 0))), (qS 9 (.pu (.n (.ar .mul)) [(ic 2), (.tmp 8)])), (qS 2 (.mv (.tmp 9)))]) .ret))), [(.tmp 2)]⟩
set_option maxHeartbeats 10000000 in
theorem d_impl_zig {P : Program} {env : Env}  (x0 : Int) {b : Int} (hp : p_impl_zig x0 = some b) : R P env (c_impl_zig) ((encA (x0)).map ofI) [] (Tells true b) := by
  refine R_of (by simp [c_impl_zig, encA]) ?_
  unfold c_impl_zig
  unfold p_impl_zig at hp
  by_cases hb0 : (decide (x0 < 0)) = true
  · rw [if_t hb0] at hp
    have hp := Option.some.inj hp
    subst hp
    simp (maxSteps := 2000000) (disch := first|omega|(simp only[ls];first|done|omega)) only [hb0, gm]
  · replace hb0 := eq_false_of_ne_true hb0
    rw [if_f hb0] at hp
    have hp := Option.some.inj hp
    subst hp
    simp (maxSteps := 2000000) (disch := first|omega|(simp only[ls];first|done|omega)) only [hb0, gm]

noncomputable def p_spec_l01Get_l0 (x0 : List U8) (x1 : Int) : Int × Int × Int → Option (Lp (Int × Int × Int) (T3 Int Int Bool))
  | (s0, s1, s2) =>
    if (decide (s2 < 9)) = true then
      if (decide (w64 (x1 + s2) < (x0.length : Int))) = true then
        (get? x0 (w64 (x1 + s2))).bind fun v5 =>
        if (decide (s2 = 8)) = true then
          if (decide (63 < w64 v5.v)) = true then
            some (.ret ⟨0, 0, false⟩)
          else
            if (decide (w64 v5.v < 128)) = true then
              if (decide (s2 = 0)) = true then
                some (.ret ⟨w64 (s0 + (w64 ((Int.tmod (w64 v5.v) 128) * s1))), w64 ((w64 (x1 + s2)) + 1), true⟩)
              else
                some (.ret ⟨w64 (s0 + (w64 ((Int.tmod (w64 v5.v) 128) * s1))), w64 ((w64 (x1 + s2)) + 1), decide (0 < w64 v5.v)⟩)
            else
              if (decide (s2 < 8)) = true then
                some (.go (w64 (s0 + (w64 ((Int.tmod (w64 v5.v) 128) * s1))), w64 (s1 * 128), w64 (s2 + 1)))
              else
                some (.go (w64 (s0 + (w64 ((Int.tmod (w64 v5.v) 128) * s1))), s1, w64 (s2 + 1)))
        else
          if (decide (w64 v5.v < 128)) = true then
            if (decide (s2 = 0)) = true then
              some (.ret ⟨w64 (s0 + (w64 ((Int.tmod (w64 v5.v) 128) * s1))), w64 ((w64 (x1 + s2)) + 1), true⟩)
            else
              some (.ret ⟨w64 (s0 + (w64 ((Int.tmod (w64 v5.v) 128) * s1))), w64 ((w64 (x1 + s2)) + 1), decide (0 < w64 v5.v)⟩)
          else
            if (decide (s2 < 8)) = true then
              some (.go (w64 (s0 + (w64 ((Int.tmod (w64 v5.v) 128) * s1))), w64 (s1 * 128), w64 (s2 + 1)))
            else
              some (.go (w64 (s0 + (w64 ((Int.tmod (w64 v5.v) 128) * s1))), s1, w64 (s2 + 1)))
      else
        some (.out (s0, s1, s2))
    else
      some (.out (s0, s1, s2))
noncomputable def p_spec_l01Get (x0 : List U8) (x1 : Int) : Option (T3 Int Int Bool) :=
  (loopP (p_spec_l01Get_l0 x0 x1) (0, 1, 0)).bind fun ee0 => match ee0 with
  | .ret r => some r
  | .out (o14, o15, o16) =>
    some ⟨0, 0, false⟩
def c_spec_l01Get : AFn := ⟨59, (.seq (.ops [(qS 4 (.mv (ic 0))), (qS 5 (.mv (ic 0))), (qS 6 (.mv (.const (.bool false))))]) (.seq (.ops [(qS 7 (.mv (ic 0)))]) (.seq (.ops [(qS 8 (.mv (ic 1)))]) (.seq (.seq (.ops [(qS 9 (.mv (ic 0)))]) (.block 0 (.loop (.seq (.seq (.ops [(qS 11 (.mv (.tmp 9))), (qS 12 (.pu (.n (.ar .lss)) [(.tmp 11), (ic 9)])), (qS 13 (.mv (.tmp 12))), ⟨(.some 14), (.mv (.tmp 1)), (.some (13, true)), [], .none⟩, ⟨(.some 15), (.mv (.tmp 9)), (.some (13, true)), [], .none⟩, ⟨(.some 16), (.pu (.n (.ar .add)) [(.tmp 14), (.tmp 15)]), (.some (13, true)), [], .none⟩, ⟨(.some 17), (.mv (.tmp 0)), (.some (13, true)), [], .none⟩, ⟨(.some 18), (.len (.tmp 17)), (.some (13, true)), [], .none⟩, ⟨(.some 19), (.pu (.n (.ar .lss)) [(.tmp 16), (.tmp 18)]), (.some (13, true)), [], .none⟩, (qS 20 (.pick (.tmp 13) (.tmp 19) (.const (.bool false))))]) (.cond (.tmp 20) .skip (.exit 0))) (.seq (.block 1 (.seq (.ops [(qS 23 (.mv (.tmp 0))), (qS 24 (.mv (.tmp 1))), (qS 25 (.mv (.tmp 9))), (qS 26 (.pu (.n (.ar .add)) [(.tmp 24), (.tmp 25)])), (qS 27 (.idxS 1 (.tmp 23) (.tmp 26))), (qS 28 (.load 1 false (.tmp 27))), (qS 29 (.pu (.n (.conv .i64)) [(.tmp 28)])), (qS 10 (.mv (.tmp 29)))]) (.seq (.seq (.ops [(qS 30 (.mv (.tmp 9))), (qS 31 (.pu (.n (.ar .eql)) [(.tmp 30), (ic 8)])), (qS 32 (.mv (.tmp 31))), ⟨(.some 33), (.mv (.tmp 10)), (.some (32, true)), [], .none⟩, ⟨(.some 34), (.pu (.n (.ar .gtr)) [(.tmp 33), (ic 63)]), (.some (32, true)), [], .none⟩, (qS 35 (.pick (.tmp 32) (.tmp 34) (.const (.bool false))))]) (.cond (.tmp 35) (.seq (.ops [(qS 4 (.mv (ic 0))), (qS 5 (.mv (ic 0))), (qS 6 (.mv (.const (.bool false))))]) .ret) .skip)) (.seq (.ops [(qS 36 (.mv (.tmp 7))), (qS 37 (.mv (.tmp 10))), (qS 38 (.pu (.n (.ar .rem)) [(.tmp 37), (ic 128)])), (qS 39 (.mv (.tmp 8))), (qS 40 (.pu (.n (.ar .mul)) [(.tmp 38), (.tmp 39)])), (qS 41 (.pu (.n (.ar .add)) [(.tmp 36), (.tmp 40)])), (qS 7 (.mv (.tmp 41)))]) (.seq (.seq (.ops [(qS 42 (.mv (.tmp 10))), (qS 43 (.pu (.n (.ar .lss)) [(.tmp 42), (ic 128)]))]) (.cond (.tmp 43) (.seq (.ops [(qS 44 (.mv (.tmp 7))), (qS 45 (.mv (.tmp 1))), (qS 46 (.mv (.tmp 9))), (qS 47 (.pu (.n (.ar .add)) [(.tmp 45), (.tmp 46)])), (qS 48 (.pu (.n (.ar .add)) [(.tmp 47), (ic 1)])), (qS 49 (.mv (.tmp 9))), (qS 50 (.pu (.n (.ar .eql)) [(.tmp 49), (ic 0)])), (qS 51 (.mv (.tmp 50))), ⟨(.some 52), (.mv (.tmp 10)), (.some (51, false)), [], .none⟩, ⟨(.some 53), (.pu (.n (.ar .gtr)) [(.tmp 52), (ic 0)]), (.some (51, false)), [], .none⟩, (qS 54 (.pick (.tmp 51) (.const (.bool true)) (.tmp 53))), (qS 4 (.mv (.tmp 44))), (qS 5 (.mv (.tmp 48))), (qS 6 (.mv (.tmp 54)))]) .ret) .skip)) (.seq (.ops [(qS 55 (.mv (.tmp 9))), (qS 56 (.pu (.n (.ar .lss)) [(.tmp 55), (ic 8)]))]) (.cond (.tmp 56) (.ops [(qS 57 (.mv (.tmp 8))), (qS 58 (.pu (.n (.ar .mul)) [(.tmp 57), (ic 128)])), (qS 8 (.mv (.tmp 58)))]) .skip))))))) (.ops [(qS 21 (.mv (.tmp 9))), (qS 22 (.pu (.n (.ar .add)) [(.tmp 21), (ic 1)])), (qS 9 (.mv (.tmp 22)))])))))) (.seq (.ops [(qS 4 (.mv (ic 0))), (qS 5 (.mv (ic 0))), (qS 6 (.mv (.const (.bool false))))]) .ret))))), [(.tmp 4), (.tmp 5), (.tmp 6)]⟩
set_option maxHeartbeats 10000000 in
theorem d_spec_l01Get {P : Program} {env : Env}  (x0 : List U8) (x1 : Int) {b : T3 Int Int Bool} (hp : p_spec_l01Get x0 x1 = some b) : R P env (c_spec_l01Get) ((encA (x0, x1)).map ofI) [] (Tells true b) := by
  refine R_of (by simp [c_spec_l01Get, encA]) ?_
  unfold c_spec_l01Get
  unfold p_spec_l01Get at hp
  obtain ⟨ee0, hee0, hp⟩ := bind_eq hp
  simp (maxSteps := 2000000) (disch := first|omega|(simp only[ls];first|done|omega)) only [gm]
  refine W_loopP 0 (fun s t h => match s with | (s0, s1, s2) => t 0 = .i (.sl 1 (x0.map enc)) ∧ t 1 = .i (.s (.int .i64 x1)) ∧ t 7 = .i (.s (.int .i64 s0)) ∧ t 8 = .i (.s (.int .i64 s1)) ∧ t 9 = .i (.s (.int .i64 s2))) (RK [.tmp 4, .tmp 5, .tmp 6] (Tells true)) ?_ hee0 ?_ ?_
  · rintro ⟨s0, s1, s2⟩ ee tt0 hh0 ⟨ftt0_0, ftt0_1, ftt0_2, ftt0_3, ftt0_4⟩ hp
    rw [p_spec_l01Get_l0] at hp
    by_cases hb3 : (decide (s2 < 9)) = true
    · rw [if_t hb3] at hp
      by_cases hb4 : (decide (w64 (x1 + s2) < (x0.length : Int))) = true
      · rw [if_t hb4] at hp
        obtain ⟨v5, hv5, hp⟩ := bind_eq hp
        by_cases hb6 : (decide (s2 = 8)) = true
        · rw [if_t hb6] at hp
          by_cases hb7 : (decide (63 < w64 v5.v)) = true
          · rw [if_t hb7] at hp
            have hp := Option.some.inj hp
            subst hp
            simp (maxSteps := 2000000) (disch := first|omega|(simp only[ls];first|done|omega)) only [ftt0_0, ftt0_1, ftt0_2, ftt0_3, ftt0_4, hb3, hb4, hv5, hb6, hb7, gm]
          · replace hb7 := eq_false_of_ne_true hb7
            rw [if_f hb7] at hp
            by_cases hb8 : (decide (w64 v5.v < 128)) = true
            · rw [if_t hb8] at hp
              by_cases hb9 : (decide (s2 = 0)) = true
              · rw [if_t hb9] at hp
                have hp := Option.some.inj hp
                subst hp
                simp (maxSteps := 2000000) (disch := first|omega|(simp only[ls];first|done|omega)) only [ftt0_0, ftt0_1, ftt0_2, ftt0_3, ftt0_4, hb3, hb4, hv5, hb6, hb7, hb8, hb9, gm]
              · replace hb9 := eq_false_of_ne_true hb9
                rw [if_f hb9] at hp
                have hp := Option.some.inj hp
                subst hp
                simp (maxSteps := 2000000) (disch := first|omega|(simp only[ls];first|done|omega)) only [ftt0_0, ftt0_1, ftt0_2, ftt0_3, ftt0_4, hb3, hb4, hv5, hb6, hb7, hb8, hb9, gm]
            · replace hb8 := eq_false_of_ne_true hb8
              rw [if_f hb8] at hp
              by_cases hb10 : (decide (s2 < 8)) = true
              · rw [if_t hb10] at hp
                have hp := Option.some.inj hp
                subst hp
                simp (maxSteps := 2000000) (disch := first|omega|(simp only[ls];first|done|omega)) only [ftt0_0, ftt0_1, ftt0_2, ftt0_3, ftt0_4, hb3, hb4, hv5, hb6, hb7, hb8, hb10, gm] <;> omega
              · replace hb10 := eq_false_of_ne_true hb10
                rw [if_f hb10] at hp
                have hp := Option.some.inj hp
                subst hp
                simp (maxSteps := 2000000) (disch := first|omega|(simp only[ls];first|done|omega)) only [ftt0_0, ftt0_1, ftt0_2, ftt0_3, ftt0_4, hb3, hb4, hv5, hb6, hb7, hb8, hb10, gm] <;> omega
        · replace hb6 := eq_false_of_ne_true hb6
          rw [if_f hb6] at hp
          by_cases hb11 : (decide (w64 v5.v < 128)) = true
          · rw [if_t hb11] at hp
            by_cases hb12 : (decide (s2 = 0)) = true
            · rw [if_t hb12] at hp
              have hp := Option.some.inj hp
              subst hp
              simp (maxSteps := 2000000) (disch := first|omega|(simp only[ls];first|done|omega)) only [ftt0_0, ftt0_1, ftt0_2, ftt0_3, ftt0_4, hb3, hb4, hv5, hb6, hb11, hb12, gm]
            · replace hb12 := eq_false_of_ne_true hb12
              rw [if_f hb12] at hp
              have hp := Option.some.inj hp
              subst hp
              simp (maxSteps := 2000000) (disch := first|omega|(simp only[ls];first|done|omega)) only [ftt0_0, ftt0_1, ftt0_2, ftt0_3, ftt0_4, hb3, hb4, hv5, hb6, hb11, hb12, gm]
          · replace hb11 := eq_false_of_ne_true hb11
            rw [if_f hb11] at hp
            by_cases hb13 : (decide (s2 < 8)) = true
            · rw [if_t hb13] at hp
              have hp := Option.some.inj hp
              subst hp
              simp (maxSteps := 2000000) (disch := first|omega|(simp only[ls];first|done|omega)) only [ftt0_0, ftt0_1, ftt0_2, ftt0_3, ftt0_4, hb3, hb4, hv5, hb6, hb11, hb13, gm] <;> omega
            · replace hb13 := eq_false_of_ne_true hb13
              rw [if_f hb13] at hp
              have hp := Option.some.inj hp
              subst hp
              simp (maxSteps := 2000000) (disch := first|omega|(simp only[ls];first|done|omega)) only [ftt0_0, ftt0_1, ftt0_2, ftt0_3, ftt0_4, hb3, hb4, hv5, hb6, hb11, hb13, gm] <;> omega
      · replace hb4 := eq_false_of_ne_true hb4
        rw [if_f hb4] at hp
        have hp := Option.some.inj hp
        subst hp
        simp (maxSteps := 2000000) (disch := first|omega|(simp only[ls];first|done|omega)) only [ftt0_0, ftt0_1, ftt0_2, ftt0_3, ftt0_4, hb3, hb4, gm] <;> omega
    · replace hb3 := eq_false_of_ne_true hb3
      rw [if_f hb3] at hp
      have hp := Option.some.inj hp
      subst hp
      simp (maxSteps := 2000000) (disch := first|omega|(simp only[ls];first|done|omega)) only [ftt0_0, ftt0_1, ftt0_2, ftt0_3, ftt0_4, hb3, gm] <;> omega
  · simp (maxSteps := 2000000) (disch := first|omega|(simp only[ls];first|done|omega)) only [gm] <;> omega
  · intro x tt1 hh1 hx
    rcases ee0 with ⟨o14, o15, o16⟩ | r
    · obtain ⟨rfl, ftt1_0, ftt1_1, ftt1_2, ftt1_3, ftt1_4⟩ := hx
      dsimp only at hp
      have hp := Option.some.inj hp
      subst hp
      simp (maxSteps := 2000000) (disch := first|omega|(simp only[ls];first|done|omega)) only [ftt1_0, ftt1_1, ftt1_2, ftt1_3, ftt1_4, gm]
    · obtain ⟨rfl, hx⟩ := hx
      dsimp only at hp
      cases hp
      simp only [seqK_ret, blockK_ret, retK_RK (K := Tells true), hx, and_self, true_and]

noncomputable def p_spec_l01Reader_num (x0 : TReader) : Option (T2 Int TReader) :=
  if (x0.bad) = true then
    some ⟨0, x0⟩
  else
    (p_spec_l01Get x0.b x0.at_).bind fun v1 =>
    if (v1.c) = true then
      some ⟨v1.a, (TReader.mk x0.b v1.b x0.bad)⟩
    else
      some ⟨0, (TReader.mk x0.b x0.at_ true)⟩
def c_spec_l01Reader_num (f_spec_l01Get : Nat) : AFn := ⟨33, (.seq (.ops [(qS 2 (.mv (ic 0)))]) (.seq (.seq (.ops [(qS 6 (.mv (.tmp 0))), (qS 7 (.nilChk (.tmp 6))), (qS 8 (.fieldA 2 (.tmp 7))), (qS 9 (.load 1 false (.tmp 8)))]) (.cond (.tmp 9) (.seq (.ops [(qS 2 (.mv (ic 0)))]) .ret) .skip)) (.seq (.ops [(qS 11 (.mv (.tmp 0))), (qS 12 (.nilChk (.tmp 11))), (qS 13 (.fieldA 0 (.tmp 12))), (qS 14 (.load 1 false (.tmp 13))), (qS 15 (.mv (.tmp 0))), (qS 16 (.nilChk (.tmp 15))), (qS 17 (.fieldA 1 (.tmp 16))), (qS 18 (.load 1 false (.tmp 17))), (qS 19 (.call (2 * f_spec_l01Get) [(.tmp 14), (.tmp 18)])), (qS 10 (.mv (.tmp 19))), (qS 20 (.extract 0 (.tmp 10))), (qS 21 (.extract 1 (.tmp 10))), (qS 22 (.extract 2 (.tmp 10))), (qS 3 (.mv (.tmp 20))), (qS 4 (.mv (.tmp 21))), (qS 5 (.mv (.tmp 22)))]) (.seq (.seq (.ops [(qS 23 (.mv (.tmp 5))), (qS 24 (.pu (.n (.un .not)) [(.tmp 23)]))]) (.cond (.tmp 24) (.seq (.ops [(qS 25 (.mv (.tmp 0))), (qS 26 (.nilChk (.tmp 25))), (qS 27 (.fieldA 2 (.tmp 26))), ⟨.none, (.storeV [(0, false)] 1 (.tmp 27) (.const (.bool true))), .none, [], .none⟩]) (.seq (.ops [(qS 2 (.mv (ic 0)))]) .ret)) .skip)) (.seq (.ops [(qS 28 (.mv (.tmp 0))), (qS 29 (.mv (.tmp 4))), (qS 30 (.nilChk (.tmp 28))), (qS 31 (.fieldA 1 (.tmp 30))), ⟨.none, (.storeV [(0, false)] 1 (.tmp 31) (.tmp 29)), .none, [], .none⟩]) (.seq (.ops [(qS 32 (.mv (.tmp 3))), (qS 2 (.mv (.tmp 32)))]) .ret)))))), [(.tmp 2)]⟩
def i_spec_l01Reader_num (pb0 : Nat) (h : Heap) (b : T2 Int TReader) (v : V) (h2 : Heap) : Prop := Keep [pb0] h h2 ∧ v = .i (.s (.int .i64 b.a)) ∧ getCells h2 pb0 3 = some [.i (.sl 1 (b.b.b.map enc)), .i (.s (.int .i64 b.b.at_)), .i (.s (.bool b.b.bad))]
def k_spec_l01Reader_num (F : Fun) : Prop := ∀ (x0 : TReader) (b : T2 Int TReader), p_spec_l01Reader_num x0 = some b → ∀ (pb0 : Nat) (h : Heap), getCells h pb0 3 = some [.i (.sl 1 (x0.b.map enc)), .i (.s (.int .i64 x0.at_)), .i (.s (.bool x0.bad))] → ∃ p, F none [.ptr pb0 3 0] h = some p ∧ i_spec_l01Reader_num pb0 h b p.1 p.2
set_option maxHeartbeats 10000000 in
theorem w_spec_l01Reader_num {P : Program} {env : Env} {f_spec_l01Get : Nat}  (ep_spec_l01Get : env (2 * f_spec_l01Get) = pureFn true (FA fun a : List U8 × Int => p_spec_l01Get a.1 a.2)) (x0 : TReader) {b : T2 Int TReader} (hp : p_spec_l01Reader_num x0 = some b) (pb0 : Nat) (hh : Heap) (pf0 : getCells hh pb0 3 = some [.i (.sl 1 (x0.b.map enc)), .i (.s (.int .i64 x0.at_)), .i (.s (.bool x0.bad))]) : R P env (c_spec_l01Reader_num f_spec_l01Get) [.ptr pb0 3 0] hh (i_spec_l01Reader_num pb0 hh b) := by
  have pl0 := gc_lt pf0
  refine R_of (by simp [c_spec_l01Reader_num, encA]) ?_
  have E := ep_spec_l01Get
  unfold c_spec_l01Reader_num
  unfold p_spec_l01Reader_num at hp
  by_cases hb0 : (x0.bad) = true
  · rw [if_t hb0] at hp
    have hp := Option.some.inj hp
    subst hp
    simp (maxSteps := 2000000) (disch := first|omega|(simp only[ls];first|done|omega)) only [i_spec_l01Reader_num, E, pf0, hb0, gm] <;> (repeat (first | omega | assumption | rfl | exact keep_refl | refine keep_app ?_ | (refine keep_set (by first | (left; simp; done) | (right; simp; omega)) ?_) | refine And.intro ?_ ?_))
  · replace hb0 := eq_false_of_ne_true hb0
    rw [if_f hb0] at hp
    obtain ⟨v1, hv1, hp⟩ := bind_eq hp
    by_cases hb2 : (v1.c) = true
    · rw [if_t hb2] at hp
      have hp := Option.some.inj hp
      subst hp
      simp (maxSteps := 2000000) (disch := first|omega|(simp only[ls];first|done|omega)) only [i_spec_l01Reader_num, E, pf0, hb0, hv1, hb2, gm] <;> (repeat (first | omega | assumption | rfl | exact keep_refl | refine keep_app ?_ | (refine keep_set (by first | (left; simp; done) | (right; simp; omega)) ?_) | refine And.intro ?_ ?_))
    · replace hb2 := eq_false_of_ne_true hb2
      rw [if_f hb2] at hp
      have hp := Option.some.inj hp
      subst hp
      simp (maxSteps := 2000000) (disch := first|omega|(simp only[ls];first|done|omega)) only [i_spec_l01Reader_num, E, pf0, hb0, hv1, hb2, gm] <;> (repeat (first | omega | assumption | rfl | exact keep_refl | refine keep_app ?_ | (refine keep_set (by first | (left; simp; done) | (right; simp; omega)) ?_) | refine And.intro ?_ ?_))
theorem ko_spec_l01Reader_num {P : Program} {env : Env} {f_spec_l01Get : Nat}  (ep_spec_l01Get : env (2 * f_spec_l01Get) = pureFn true (FA fun a : List U8 × Int => p_spec_l01Get a.1 a.2)) : k_spec_l01Reader_num (runIn P env (c_spec_l01Reader_num f_spec_l01Get)) := by
  intro x0 b hp pb0 h a0
  exact w_spec_l01Reader_num ep_spec_l01Get x0 hp pb0 h a0

noncomputable def p_spec_l01Reader_count (x0 : TReader) : Option (T2 Int TReader) :=
  (p_spec_l01Reader_num x0).bind fun v0 =>
  if (decide (4096 < v0.a)) = true then
    some ⟨0, (TReader.mk v0.b.b v0.b.at_ true)⟩
  else
    some ⟨v0.a, v0.b⟩
def c_spec_l01Reader_count (f_spec_l01Reader_num : Nat) : AFn := ⟨12, (.seq (.ops [(qS 2 (.mv (ic 0)))]) (.seq (.ops [(qS 4 (.mv (.tmp 0))), (qS 5 (.call (2 * f_spec_l01Reader_num + 1) [(.tmp 4)])), (qS 3 (.mv (.tmp 5)))]) (.seq (.seq (.ops [(qS 6 (.mv (.tmp 3))), (qS 7 (.pu (.n (.ar .gtr)) [(.tmp 6), (ic 4096)]))]) (.cond (.tmp 7) (.seq (.ops [(qS 8 (.mv (.tmp 0))), (qS 9 (.nilChk (.tmp 8))), (qS 10 (.fieldA 2 (.tmp 9))), ⟨.none, (.storeV [(0, false)] 1 (.tmp 10) (.const (.bool true))), .none, [], .none⟩]) (.seq (.ops [(qS 2 (.mv (ic 0)))]) .ret)) .skip)) (.seq (.ops [(qS 11 (.mv (.tmp 3))), (qS 2 (.mv (.tmp 11)))]) .ret)))), [(.tmp 2)]⟩
def i_spec_l01Reader_count (pb0 : Nat) (h : Heap) (b : T2 Int TReader) (v : V) (h2 : Heap) : Prop := Keep [pb0] h h2 ∧ v = .i (.s (.int .i64 b.a)) ∧ getCells h2 pb0 3 = some [.i (.sl 1 (b.b.b.map enc)), .i (.s (.int .i64 b.b.at_)), .i (.s (.bool b.b.bad))]
def k_spec_l01Reader_count (F : Fun) : Prop := ∀ (x0 : TReader) (b : T2 Int TReader), p_spec_l01Reader_count x0 = some b → ∀ (pb0 : Nat) (h : Heap), getCells h pb0 3 = some [.i (.sl 1 (x0.b.map enc)), .i (.s (.int .i64 x0.at_)), .i (.s (.bool x0.bad))] → ∃ p, F none [.ptr pb0 3 0] h = some p ∧ i_spec_l01Reader_count pb0 h b p.1 p.2
set_option maxHeartbeats 10000000 in
theorem w_spec_l01Reader_count {P : Program} {env : Env} {f_spec_l01Reader_num : Nat}  (e_spec_l01Reader_num : k_spec_l01Reader_num (env (2 * f_spec_l01Reader_num + 1))) (x0 : TReader) {b : T2 Int TReader} (hp : p_spec_l01Reader_count x0 = some b) (pb0 : Nat) (hh : Heap) (pf0 : getCells hh pb0 3 = some [.i (.sl 1 (x0.b.map enc)), .i (.s (.int .i64 x0.at_)), .i (.s (.bool x0.bad))]) : R P env (c_spec_l01Reader_count f_spec_l01Reader_num) [.ptr pb0 3 0] hh (i_spec_l01Reader_count pb0 hh b) := by
  have pl0 := gc_lt pf0
  refine R_of (by simp [c_spec_l01Reader_count, encA]) ?_
  unfold c_spec_l01Reader_count
  unfold p_spec_l01Reader_count at hp
  obtain ⟨v0, hv0, hp⟩ := bind_eq hp
  simp (maxSteps := 2000000) (disch := first|omega|(simp only[ls];first|done|omega)) only [pf0, gm]
  refine call_f (fun h => getCells h pb0 3 = some [.i (.sl 1 (x0.b.map enc)), .i (.s (.int .i64 x0.at_)), .i (.s (.bool x0.bad))] ∧ pb0 < h.length ∧ Keep [pb0] hh h) (fun h v h2 => i_spec_l01Reader_num pb0 h v0 v h2) ?_ ?_ ?_
  · simp (maxSteps := 2000000) (disch := first|omega|(simp only[ls];first|done|omega)) only [i_spec_l01Reader_count, pf0, hv0, gm] <;> (repeat (first | omega | assumption | rfl | exact keep_refl | refine keep_app ?_ | (refine keep_set (by first | (left; simp; done) | (right; simp; omega)) ?_) | refine And.intro ?_ ?_))
  · rintro h ⟨c0_0, c0_1, c0_2⟩
    exact e_spec_l01Reader_num _ _ hv0 pb0  h c0_0
  · rintro hc0 v hh0 ⟨c0_0, c0_1, c0_2⟩ hpost
    obtain ⟨kk0, rfl, w0_0⟩ := hpost
    have d0_0 : getCells hh0 pb0 3 = some [.i (.sl 1 (v0.b.b.map enc)), .i (.s (.int .i64 v0.b.at_)), .i (.s (.bool v0.b.bad))] := w0_0
    have d0_0l := keep_lt kk0 c0_1
    have kp0 : Keep [pb0] hh hh0 := keep_trans c0_2 kk0 (by intro b hb; first | (simp at hb; done) | (simp at hb ⊢; omega))
    by_cases hb1 : (decide (4096 < v0.a)) = true
    · rw [if_t hb1] at hp
      have hp := Option.some.inj hp
      subst hp
      simp (maxSteps := 2000000) (disch := first|omega|(simp only[ls];first|done|omega)) only [i_spec_l01Reader_count, pf0, hv0, d0_0, hb1, gm] <;> (repeat (first | omega | assumption | rfl | exact keep_refl | refine keep_app ?_ | (refine keep_set (by first | (left; simp; done) | (right; simp; omega)) ?_) | refine And.intro ?_ ?_))
    · replace hb1 := eq_false_of_ne_true hb1
      rw [if_f hb1] at hp
      have hp := Option.some.inj hp
      subst hp
      simp (maxSteps := 2000000) (disch := first|omega|(simp only[ls];first|done|omega)) only [i_spec_l01Reader_count, pf0, hv0, d0_0, hb1, gm] <;> (repeat (first | omega | assumption | rfl | exact keep_refl | refine keep_app ?_ | (refine keep_set (by first | (left; simp; done) | (right; simp; omega)) ?_) | refine And.intro ?_ ?_))
theorem ko_spec_l01Reader_count {P : Program} {env : Env} {f_spec_l01Reader_num : Nat}  (e_spec_l01Reader_num : k_spec_l01Reader_num (env (2 * f_spec_l01Reader_num + 1))) : k_spec_l01Reader_count (runIn P env (c_spec_l01Reader_count f_spec_l01Reader_num)) := by
  intro x0 b hp pb0 h a0
  exact w_spec_l01Reader_count e_spec_l01Reader_num x0 hp pb0 h a0

end Go.AM

set_option linter.unusedVariables false
set_option linter.unusedSimpArgs false
set_option maxRecDepth 20000
namespace Go.AM
open Pic (enc dec dec_enc dec_sub)
open PicA (encA decA decA_encA decA_sub)

abbrev rdC (r : TReader) : List V := [.i (.sl 1 (r.b.map enc)), .i (.s (.int .i64 r.at_)), .i (.s (.bool r.bad))]
def badR (r : TReader) : TReader := ⟨r.b, r.at_, true⟩
theorem app_int {B : Nat} {h : Heap} {xs : List Int} {x : Int} (hg : getCells h B xs.length = some (rows xs)) (hl : xs.length ≤ 1000000) :
    ∃ h', stepAppend none 1 false 8 (h ++ [Slot.cells [.i (.s (.int .i64 x))]]) [.i (.s (.int .i64 x))] 1 (.hsl B xs.length 0 1 false xs.length) = some (.hsl B (xs.length + 1) 0 1 false (xs.length + 1), h') ∧ getCells h' B (xs ++ [x]).length = some (rows (xs ++ [x])) ∧ (∀ b, b ≠ B → b < h.length → h'[b]? = h[b]?) ∧ h'.length = h.length + 1 := by
  have lB := gc_lt hg
  have hg2 := gc_app (l := [Slot.cells [.i (.s (.int .i64 x))]]) hg
  rw [app_hsl, if_pos ⟨.inl rfl, rfl⟩, hg2, Option.bind_some, if_neg (by decide), if_pos (by omega), if_pos (by omega)]
  refine ⟨_, rfl, ?_, fun b hb hlt => ?_, by simp⟩
  · rw [gc_set_eq (by simp; omega), rows_append, if_pos (by rw [List.length_append, rows_len, List.length_append]; simp [z_int])]
    rfl
  · rw [List.getElem?_set_ne (Ne.symm hb), List.getElem?_append_left hlt]
/-- What a reader of runs leaves as it goes: the reader's cells, and the list so far in a block of its own. -/
structure RunR (hh h : Heap) (pb B : Nat) (r : TReader) (s : List Int) : Prop where
  rd : getCells h pb 3 = some (rdC r)
  row : getCells h B s.length = some (rows s)
  lt : pb < hh.length
  nB : hh.length ≤ B
  kp : Keep [pb] hh h
theorem RunR.push {hh h : Heap} {pb B : Nat} {r : TReader} {s : List Int} (q : RunR hh h pb B r s) (x : Int) (hl : s.length ≤ 1000000) :
    ∃ h', stepAppend none 1 false 8 (h ++ [Slot.cells [.i (.s (.int .i64 x))]]) [.i (.s (.int .i64 x))] 1 (.hsl B s.length 0 1 false s.length) = some (.hsl B (s.length + 1) 0 1 false (s.length + 1), h') ∧ RunR hh h' pb B r (s ++ [x]) := by
  obtain ⟨h', e1, e2, e3, e4⟩ := app_int (x := x) q.row hl
  have lp := gc_lt q.rd
  have h1 := q.lt
  have h2 := q.nB
  have h3 := q.kp.len
  refine ⟨h', e1, (getCells_congr (e3 pb (by omega) lp)).trans q.rd, e2, q.lt, q.nB, by omega, fun b hb hn => ?_⟩
  rw [e3 b (by omega) (by omega)]
  exact q.kp.at_ b hb hn
theorem RunR.num {hh h h2 : Heap} {pb B : Nat} {r r2 : TReader} {s : List Int} (q : RunR hh h pb B r s) (k : Keep [pb] h h2) (g : getCells h2 pb 3 = some (rdC r2)) : RunR hh h2 pb B r2 s := by
  have h1 := q.lt
  have h2 := q.nB
  have lB := gc_lt q.row
  refine ⟨g, (keep_get k lB (by simp; omega)).trans q.row, q.lt, q.nB, keep_trans q.kp k fun b hb => .inl hb⟩
theorem RunR.bad {hh h : Heap} {pb B : Nat} {r : TReader} {s : List Int} (q : RunR hh h pb B r s) : RunR hh (h.set pb (.cells (rdC (badR r)))) pb B (badR r) s := by
  have h1 := q.lt
  have h2 := q.nB
  have lp := gc_lt q.rd
  refine ⟨by rw [gc_set_eq lp]; rfl, (getCells_congr (List.getElem?_set_ne (by omega))).trans q.row, q.lt, q.nB, keep_set (.inl (by simp)) q.kp⟩
def i_runs (pb : Nat) (h : Heap) (b : T2 (List Int) TReader) (v : V) (h2 : Heap) : Prop := ∃ B, v = .hsl B b.a.length 0 1 false b.a.length ∧ RunR h h2 pb B b.b b.a

noncomputable def p_spec_l01Reader_runs_l2 (r : TReader) (d : Int) : List Int × Int × Int → Option (Lp (List Int × Int × Int) (T2 (List Int) TReader))
  | (s, v, k) => if 0 < k then (if s.length ≤ 1000000 then (if 1 < k ∧ (w64 (v + d) < 0 ∨ 1152921504606846975 < w64 (v + d)) then some (.ret ⟨s ++ [v], badR r⟩) else some (.go (s ++ [v], w64 (v + d), w64 (k - 1)))) else none) else some (.out (s, v, k))
def c_spec_l01Reader_runs (f_spec_l01Reader_count : Nat) (f_spec_l01Reader_num : Nat) : AFn := ⟨94, (.seq (.ops [(qS 2 (.vnil 1 false))]) (.seq (.ops [(qS 9 (.buildSl 1 false 0 [(.int .i64 0)] [])), (qS 3 (.mv (.tmp 9)))]) (.seq (.ops [(qS 10 (.mv (.tmp 0))), (qS 11 (.call (2 * f_spec_l01Reader_count + 1) [(.tmp 10)])), (qS 4 (.mv (.tmp 11)))]) (.seq (.block 0 (.loop (.seq (.seq (.ops [(qS 12 (.mv (.tmp 3))), (qS 13 (.len (.tmp 12))), (qS 14 (.mv (.tmp 4))), (qS 15 (.pu (.n (.ar .lss)) [(.tmp 13), (.tmp 14)])), (qS 16 (.mv (.tmp 15))), ⟨(.some 17), (.mv (.tmp 0)), (.some (16, true)), [], .none⟩, ⟨(.some 18), (.nilChk (.tmp 17)), (.some (16, true)), [], .none⟩, ⟨(.some 19), (.fieldA 2 (.tmp 18)), (.some (16, true)), [], .none⟩, ⟨(.some 20), (.load 1 false (.tmp 19)), (.some (16, true)), [], .none⟩, ⟨(.some 21), (.pu (.n (.un .not)) [(.tmp 20)]), (.some (16, true)), [], .none⟩, (qS 22 (.pick (.tmp 16) (.tmp 21) (.const (.bool false))))]) (.cond (.tmp 22) .skip (.exit 0))) (.block 1 (.seq (.ops [(qS 23 (.mv (.tmp 0))), (qS 24 (.call (2 * f_spec_l01Reader_num + 1) [(.tmp 23)])), (qS 5 (.mv (.tmp 24)))]) (.seq (.ops [(qS 25 (.mv (.tmp 0))), (qS 26 (.call (2 * f_spec_l01Reader_num + 1) [(.tmp 25)])), (qS 6 (.mv (.tmp 26)))]) (.seq (.seq (.ops [(qS 27 (.mv (.tmp 0))), (qS 28 (.nilChk (.tmp 27))), (qS 29 (.fieldA 2 (.tmp 28))), (qS 30 (.load 1 false (.tmp 29))), (qS 31 (.mv (.tmp 30))), ⟨(.some 32), (.mv (.tmp 6)), (.some (31, false)), [], .none⟩, ⟨(.some 33), (.pu (.n (.ar .lss)) [(.tmp 32), (ic 1)]), (.some (31, false)), [], .none⟩, (qS 34 (.pick (.tmp 31) (.const (.bool true)) (.tmp 33))), (qS 35 (.mv (.tmp 34))), ⟨(.some 36), (.mv (.tmp 6)), (.some (35, false)), [], .none⟩, ⟨(.some 37), (.mv (.tmp 4)), (.some (35, false)), [], .none⟩, ⟨(.some 38), (.mv (.tmp 3)), (.some (35, false)), [], .none⟩, ⟨(.some 39), (.len (.tmp 38)), (.some (35, false)), [], .none⟩, ⟨(.some 40), (.pu (.n (.ar .sub)) [(.tmp 37), (.tmp 39)]), (.some (35, false)), [], .none⟩, ⟨(.some 41), (.pu (.n (.ar .gtr)) [(.tmp 36), (.tmp 40)]), (.some (35, false)), [], .none⟩, (qS 42 (.pick (.tmp 35) (.const (.bool true)) (.tmp 41))), (qS 43 (.mv (.tmp 42))), ⟨(.some 44), (.mv (.tmp 5)), (.some (43, false)), [], .none⟩, ⟨(.some 45), (.pu (.n (.ar .gtr)) [(.tmp 44), (ic 1152921504606846975)]), (.some (43, false)), [], .none⟩, (qS 46 (.pick (.tmp 43) (.const (.bool true)) (.tmp 45)))]) (.cond (.tmp 46) (.seq (.ops [(qS 47 (.mv (.tmp 0))), (qS 48 (.nilChk (.tmp 47))), (qS 49 (.fieldA 2 (.tmp 48))), ⟨.none, (.storeV [(0, false)] 1 (.tmp 49) (.const (.bool true))), .none, [], .none⟩]) (.seq (.ops [(qS 50 (.mv (.tmp 3))), (qS 2 (.mv (.tmp 50)))]) .ret)) .skip)) (.seq (.ops [(qS 7 (.mv (ic 0)))]) (.seq (.seq (.ops [(qS 51 (.mv (.tmp 6))), (qS 52 (.pu (.n (.ar .gtr)) [(.tmp 51), (ic 1)]))]) (.cond (.tmp 52) (.seq (.ops [(qS 53 (.mv (.tmp 0))), (qS 54 (.call (2 * f_spec_l01Reader_num + 1) [(.tmp 53)])), (qS 8 (.mv (.tmp 54)))]) (.seq (.ops [(qS 55 (.mv (.tmp 8))), (qS 56 (.pu (.n (.ar .quo)) [(.tmp 55), (ic 2)])), (qS 7 (.mv (.tmp 56)))]) (.seq (.ops [(qS 57 (.mv (.tmp 8))), (qS 58 (.pu (.n (.ar .rem)) [(.tmp 57), (ic 2)])), (qS 59 (.pu (.n (.ar .eql)) [(.tmp 58), (ic 1)]))]) (.cond (.tmp 59) (.ops [(qS 60 (.mv (.tmp 8))), (qS 61 (.pu (.n (.ar .add)) [(.tmp 60), (ic 1)])), (qS 62 (.pu (.n (.un .neg)) [(.tmp 61)])), (qS 63 (.pu (.n (.ar .quo)) [(.tmp 62), (ic 2)])), (qS 7 (.mv (.tmp 63)))]) .skip)))) .skip)) (.block 2 (.loop (.seq (.seq (.ops [(qS 64 (.mv (.tmp 6))), (qS 65 (.pu (.n (.ar .gtr)) [(.tmp 64), (ic 0)]))]) (.cond (.tmp 65) .skip (.exit 2))) (.seq (.block 3 (.seq (.ops [(qS 68 (.mv (.tmp 3))), (qS 69 (.mv (.tmp 5))), (qS 70 (.buildSl 1 false 1 [(.int .i64 0)] [(0, (.tmp 69))])), (qS 71 (.append 1 false 8 (.tmp 68) (.tmp 70))), (qS 3 (.mv (.tmp 71)))]) (.seq (.seq (.ops [(qS 72 (.mv (.tmp 6))), (qS 73 (.pu (.n (.ar .gtr)) [(.tmp 72), (ic 1)])), (qS 74 (.mv (.tmp 73))), ⟨(.some 75), (.mv (.tmp 5)), (.some (74, true)), [], .none⟩, ⟨(.some 76), (.mv (.tmp 7)), (.some (74, true)), [], .none⟩, ⟨(.some 77), (.pu (.n (.ar .add)) [(.tmp 75), (.tmp 76)]), (.some (74, true)), [], .none⟩, ⟨(.some 78), (.pu (.n (.ar .lss)) [(.tmp 77), (ic 0)]), (.some (74, true)), [], .none⟩, ⟨(.some 79), (.mv (.tmp 78)), (.some (74, true)), [], .none⟩, ⟨(.some 80), (.mv (.tmp 5)), (.some (79, false)), [], .none⟩, ⟨(.some 81), (.mv (.tmp 7)), (.some (79, false)), [], .none⟩, ⟨(.some 82), (.pu (.n (.ar .add)) [(.tmp 80), (.tmp 81)]), (.some (79, false)), [], .none⟩, ⟨(.some 83), (.pu (.n (.ar .gtr)) [(.tmp 82), (ic 1152921504606846975)]), (.some (79, false)), [], .none⟩, ⟨(.some 84), (.pick (.tmp 79) (.const (.bool true)) (.tmp 83)), (.some (74, true)), [], .none⟩, (qS 85 (.pick (.tmp 74) (.tmp 84) (.const (.bool false))))]) (.cond (.tmp 85) (.seq (.ops [(qS 86 (.mv (.tmp 0))), (qS 87 (.nilChk (.tmp 86))), (qS 88 (.fieldA 2 (.tmp 87))), ⟨.none, (.storeV [(0, false)] 1 (.tmp 88) (.const (.bool true))), .none, [], .none⟩]) (.seq (.ops [(qS 89 (.mv (.tmp 3))), (qS 2 (.mv (.tmp 89)))]) .ret)) .skip)) (.ops [(qS 90 (.mv (.tmp 5))), (qS 91 (.mv (.tmp 7))), (qS 92 (.pu (.n (.ar .add)) [(.tmp 90), (.tmp 91)])), (qS 5 (.mv (.tmp 92)))])))) (.ops [(qS 66 (.mv (.tmp 6))), (qS 67 (.pu (.n (.ar .sub)) [(.tmp 66), (ic 1)])), (qS 6 (.mv (.tmp 67)))])))))))))))))) (.seq (.ops [(qS 93 (.mv (.tmp 3))), (qS 2 (.mv (.tmp 93)))]) .ret))))), [(.tmp 2)]⟩

theorem spec_inner {t : Nat → V} {P : Program} {env : Env} {Q : Post} {hh h : Heap} {pb B : Nat} {r : TReader} {s : List Int} {v k d n : Int} {e : Ex (List Int × Int × Int) (T2 (List Int) TReader)} (q : RunR hh h pb B r s) (hp : loopP (p_spec_l01Reader_runs_l2 r d) (s, v, k) = some e)
    (g0 : t 0 = .ptr pb 3 0) (g3 : t 3 = .hsl B s.length 0 1 false s.length) (g4 : t 4 = .i (.s (.int .i64 n))) (g5 : t 5 = .i (.s (.int .i64 v))) (g6 : t 6 = .i (.s (.int .i64 k))) (g7 : t 7 = .i (.s (.int .i64 d)))
    (hQ : ∀ s' v' k' t' h', e = .out (s', v', k') → t' 0 = .ptr pb 3 0 → t' 3 = .hsl B s'.length 0 1 false s'.length → t' 4 = .i (.s (.int .i64 n)) → RunR hh h' pb B r s' → Q (.exit 2) t' h')
    (hR : ∀ x t' h', e = .ret x → t' 2 = .hsl B x.a.length 0 1 false x.a.length → RunR hh h' pb B x.b x.a → Q .ret t' h') :
    @W P env ⟨(.loop (.seq (.seq (.ops [(qS 64 (.mv (.tmp 6))), (qS 65 (.pu (.n (.ar .gtr)) [(.tmp 64), (ic 0)]))]) (.cond (.tmp 65) .skip (.exit 2))) (.seq (.block 3 (.seq (.ops [(qS 68 (.mv (.tmp 3))), (qS 69 (.mv (.tmp 5))), (qS 70 (.buildSl 1 false 1 [(.int .i64 0)] [(0, (.tmp 69))])), (qS 71 (.append 1 false 8 (.tmp 68) (.tmp 70))), (qS 3 (.mv (.tmp 71)))]) (.seq (.seq (.ops [(qS 72 (.mv (.tmp 6))), (qS 73 (.pu (.n (.ar .gtr)) [(.tmp 72), (ic 1)])), (qS 74 (.mv (.tmp 73))), ⟨(.some 75), (.mv (.tmp 5)), (.some (74, true)), [], .none⟩, ⟨(.some 76), (.mv (.tmp 7)), (.some (74, true)), [], .none⟩, ⟨(.some 77), (.pu (.n (.ar .add)) [(.tmp 75), (.tmp 76)]), (.some (74, true)), [], .none⟩, ⟨(.some 78), (.pu (.n (.ar .lss)) [(.tmp 77), (ic 0)]), (.some (74, true)), [], .none⟩, ⟨(.some 79), (.mv (.tmp 78)), (.some (74, true)), [], .none⟩, ⟨(.some 80), (.mv (.tmp 5)), (.some (79, false)), [], .none⟩, ⟨(.some 81), (.mv (.tmp 7)), (.some (79, false)), [], .none⟩, ⟨(.some 82), (.pu (.n (.ar .add)) [(.tmp 80), (.tmp 81)]), (.some (79, false)), [], .none⟩, ⟨(.some 83), (.pu (.n (.ar .gtr)) [(.tmp 82), (ic 1152921504606846975)]), (.some (79, false)), [], .none⟩, ⟨(.some 84), (.pick (.tmp 79) (.const (.bool true)) (.tmp 83)), (.some (74, true)), [], .none⟩, (qS 85 (.pick (.tmp 74) (.tmp 84) (.const (.bool false))))]) (.cond (.tmp 85) (.seq (.ops [(qS 86 (.mv (.tmp 0))), (qS 87 (.nilChk (.tmp 86))), (qS 88 (.fieldA 2 (.tmp 87))), ⟨.none, (.storeV [(0, false)] 1 (.tmp 88) (.const (.bool true))), .none, [], .none⟩]) (.seq (.ops [(qS 89 (.mv (.tmp 3))), (qS 2 (.mv (.tmp 89)))]) .ret)) .skip)) (.ops [(qS 90 (.mv (.tmp 5))), (qS 91 (.mv (.tmp 7))), (qS 92 (.pu (.n (.ar .add)) [(.tmp 90), (.tmp 91)])), (qS 5 (.mv (.tmp 92)))])))) (.ops [(qS 66 (.mv (.tmp 6))), (qS 67 (.pu (.n (.ar .sub)) [(.tmp 66), (ic 1)])), (qS 6 (.mv (.tmp 67)))]))))⟩ t h ⟨Q⟩ := by
  refine W_loopP 2 (fun (x : List Int × Int × Int) t h => t 0 = .ptr pb 3 0 ∧ t 3 = .hsl B x.1.length 0 1 false x.1.length ∧ t 4 = .i (.s (.int .i64 n)) ∧ t 5 = .i (.s (.int .i64 x.2.1)) ∧ t 6 = .i (.s (.int .i64 x.2.2)) ∧ t 7 = .i (.s (.int .i64 d)) ∧ RunR hh h pb B r x.1)
    (fun x t h => t 2 = .hsl B x.a.length 0 1 false x.a.length ∧ RunR hh h pb B x.b x.a) ?_ hp ⟨g0, g3, g4, g5, g6, g7, q⟩ ?_
  · clear g0 g3 g4 g5 g6 g7 q hp hQ hR
    rintro ⟨s, v, k⟩ ee t h ⟨g0, g3, g4, g5, g6, g7, q⟩ hp
    simp only at g3 g5 g6 q
    simp only [p_spec_l01Reader_runs_l2] at hp
    by_cases h1 : 0 < k
    · rw [if_pos h1] at hp
      split at hp
      case isFalse => cases hp
      rename_i hsl
      obtain ⟨h', p1, q'⟩ := q.push v hsl
      have gB : V.hsl B (s.length + 1) 0 1 false (s.length + 1) = V.hsl B (s ++ [v]).length 0 1 false (s ++ [v]).length := by rw [List.length_append]; rfl
      by_cases h2 : 1 < k
      · by_cases h3 : w64 (v + d) < 0
        · rw [if_pos ⟨h2, .inl h3⟩] at hp
          cases hp
          have rT := q'.rd
          simp (maxSteps := 2000000) (disch := omega) only [gw, Nat.reduceAdd, Nat.reduceMul, g0, g3, g4, g5, g6, g7, h1, p1, h2, h3, rT]
          exact q'.bad
        · by_cases h4 : 1152921504606846975 < w64 (v + d)
          · rw [if_pos ⟨h2, .inr h4⟩] at hp
            cases hp
            have rT := q'.rd
            simp (maxSteps := 2000000) (disch := omega) only [gw, Nat.reduceAdd, Nat.reduceMul, g0, g3, g4, g5, g6, g7, h1, p1, h2, h3, h4, rT]
            exact q'.bad
          · rw [if_neg (by omega)] at hp
            cases hp
            simp (maxSteps := 2000000) (disch := omega) only [gw, Nat.reduceAdd, Nat.reduceMul, g0, g3, g4, g5, g6, g7, h1, p1, h2, h3, h4]
            exact q'
      · rw [if_neg (fun h => h2 h.1)] at hp
        cases hp
        simp (maxSteps := 2000000) (disch := omega) only [gw, Nat.reduceAdd, Nat.reduceMul, g0, g3, g4, g5, g6, g7, h1, p1, h2]
        exact q'
    · rw [if_neg h1] at hp
      cases hp
      simp (maxSteps := 2000000) (disch := omega) only [gw, Nat.reduceAdd, Nat.reduceMul, g0, g3, g4, g5, g6, g7, h1]
      exact q
  · intro x t' h' hx
    cases e with
    | out y =>
      obtain ⟨s', v', k'⟩ := y
      obtain ⟨rfl, g0, g3, g4, g5, g6, g7, q⟩ := hx
      exact hQ s' v' k' t' h' rfl g0 g3 g4 q
    | ret y =>
      obtain ⟨rfl, g2, q⟩ := hx
      exact hR y t' h' rfl g2 q
end Go.AM

set_option linter.unusedVariables false
set_option linter.unusedSimpArgs false
set_option maxRecDepth 20000
namespace Go.AM
open Pic (enc dec dec_enc dec_sub)
open PicA (encA decA decA_encA decA_sub)

noncomputable def halfS (x : Int) : Int := if Int.tmod x 2 = 1 then w64 (Int.tdiv (w64 (0 - w64 (x + 1))) 2) else w64 (Int.tdiv x 2)
def goOn (r : TReader) (e : Ex (List Int × Int × Int) (T2 (List Int) TReader)) : Lp (List Int × TReader) (T2 (List Int) TReader) := match e with
  | .ret x => .ret x
  | .out y => .go (y.1, r)
noncomputable def p_spec_l01Reader_runs_l0 (n : Int) : List Int × TReader → Option (Lp (List Int × TReader) (T2 (List Int) TReader))
  | (s, r) => if (s.length : Int) < n then (if r.bad = true then some (.out (s, r)) else if n ≤ 1000000 then
      (p_spec_l01Reader_num r).bind fun q1 => (p_spec_l01Reader_num q1.b).bind fun q2 =>
        if q2.b.bad = true ∨ q2.a < 1 ∨ n - s.length < q2.a ∨ 1152921504606846975 < q1.a then some (.ret ⟨s, badR q2.b⟩)
        else if 1 < q2.a then (p_spec_l01Reader_num q2.b).bind fun q3 => (loopP (p_spec_l01Reader_runs_l2 q3.b (halfS q3.a)) (s, q1.a, q2.a)).map (goOn q3.b)
        else (loopP (p_spec_l01Reader_runs_l2 q2.b 0) (s, q1.a, q2.a)).map (goOn q2.b)
      else none) else some (.out (s, r))
noncomputable def p_spec_l01Reader_runs (x0 : TReader) : Option (T2 (List Int) TReader) :=
  (p_spec_l01Reader_count x0).bind fun c => (loopP (p_spec_l01Reader_runs_l0 c.a) ([], c.b)).bind fun e => match e with
    | .ret x => some x
    | .out y => some ⟨y.1, y.2⟩
set_option maxHeartbeats 10000000 in
theorem spec_outer {t : Nat → V} {P : Program} {env : Env} {Q : Post} {hh h : Heap} {pb B : Nat} {r : TReader} {s : List Int} {n : Int} {f_spec_l01Reader_num : Nat} {e : Ex (List Int × TReader) (T2 (List Int) TReader)} (e_num : k_spec_l01Reader_num (env (2 * f_spec_l01Reader_num + 1))) (q : RunR hh h pb B r s) (hp : loopP (p_spec_l01Reader_runs_l0 n) (s, r) = some e)
    (g0 : t 0 = .ptr pb 3 0) (g3 : t 3 = .hsl B s.length 0 1 false s.length) (g4 : t 4 = .i (.s (.int .i64 n)))
    (hQ : ∀ s' r' t' h', e = .out (s', r') → t' 3 = .hsl B s'.length 0 1 false s'.length → RunR hh h' pb B r' s' → Q (.exit 0) t' h')
    (hR : ∀ x t' h', e = .ret x → t' 2 = .hsl B x.a.length 0 1 false x.a.length → RunR hh h' pb B x.b x.a → Q .ret t' h') :
    @W P env ⟨(.loop (.seq (.seq (.ops [(qS 12 (.mv (.tmp 3))), (qS 13 (.len (.tmp 12))), (qS 14 (.mv (.tmp 4))), (qS 15 (.pu (.n (.ar .lss)) [(.tmp 13), (.tmp 14)])), (qS 16 (.mv (.tmp 15))), ⟨(.some 17), (.mv (.tmp 0)), (.some (16, true)), [], .none⟩, ⟨(.some 18), (.nilChk (.tmp 17)), (.some (16, true)), [], .none⟩, ⟨(.some 19), (.fieldA 2 (.tmp 18)), (.some (16, true)), [], .none⟩, ⟨(.some 20), (.load 1 false (.tmp 19)), (.some (16, true)), [], .none⟩, ⟨(.some 21), (.pu (.n (.un .not)) [(.tmp 20)]), (.some (16, true)), [], .none⟩, (qS 22 (.pick (.tmp 16) (.tmp 21) (.const (.bool false))))]) (.cond (.tmp 22) .skip (.exit 0))) (.block 1 (.seq (.ops [(qS 23 (.mv (.tmp 0))), (qS 24 (.call (2 * f_spec_l01Reader_num + 1) [(.tmp 23)])), (qS 5 (.mv (.tmp 24)))]) (.seq (.ops [(qS 25 (.mv (.tmp 0))), (qS 26 (.call (2 * f_spec_l01Reader_num + 1) [(.tmp 25)])), (qS 6 (.mv (.tmp 26)))]) (.seq (.seq (.ops [(qS 27 (.mv (.tmp 0))), (qS 28 (.nilChk (.tmp 27))), (qS 29 (.fieldA 2 (.tmp 28))), (qS 30 (.load 1 false (.tmp 29))), (qS 31 (.mv (.tmp 30))), ⟨(.some 32), (.mv (.tmp 6)), (.some (31, false)), [], .none⟩, ⟨(.some 33), (.pu (.n (.ar .lss)) [(.tmp 32), (ic 1)]), (.some (31, false)), [], .none⟩, (qS 34 (.pick (.tmp 31) (.const (.bool true)) (.tmp 33))), (qS 35 (.mv (.tmp 34))), ⟨(.some 36), (.mv (.tmp 6)), (.some (35, false)), [], .none⟩, ⟨(.some 37), (.mv (.tmp 4)), (.some (35, false)), [], .none⟩, ⟨(.some 38), (.mv (.tmp 3)), (.some (35, false)), [], .none⟩, ⟨(.some 39), (.len (.tmp 38)), (.some (35, false)), [], .none⟩, ⟨(.some 40), (.pu (.n (.ar .sub)) [(.tmp 37), (.tmp 39)]), (.some (35, false)), [], .none⟩, ⟨(.some 41), (.pu (.n (.ar .gtr)) [(.tmp 36), (.tmp 40)]), (.some (35, false)), [], .none⟩, (qS 42 (.pick (.tmp 35) (.const (.bool true)) (.tmp 41))), (qS 43 (.mv (.tmp 42))), ⟨(.some 44), (.mv (.tmp 5)), (.some (43, false)), [], .none⟩, ⟨(.some 45), (.pu (.n (.ar .gtr)) [(.tmp 44), (ic 1152921504606846975)]), (.some (43, false)), [], .none⟩, (qS 46 (.pick (.tmp 43) (.const (.bool true)) (.tmp 45)))]) (.cond (.tmp 46) (.seq (.ops [(qS 47 (.mv (.tmp 0))), (qS 48 (.nilChk (.tmp 47))), (qS 49 (.fieldA 2 (.tmp 48))), ⟨.none, (.storeV [(0, false)] 1 (.tmp 49) (.const (.bool true))), .none, [], .none⟩]) (.seq (.ops [(qS 50 (.mv (.tmp 3))), (qS 2 (.mv (.tmp 50)))]) .ret)) .skip)) (.seq (.ops [(qS 7 (.mv (ic 0)))]) (.seq (.seq (.ops [(qS 51 (.mv (.tmp 6))), (qS 52 (.pu (.n (.ar .gtr)) [(.tmp 51), (ic 1)]))]) (.cond (.tmp 52) (.seq (.ops [(qS 53 (.mv (.tmp 0))), (qS 54 (.call (2 * f_spec_l01Reader_num + 1) [(.tmp 53)])), (qS 8 (.mv (.tmp 54)))]) (.seq (.ops [(qS 55 (.mv (.tmp 8))), (qS 56 (.pu (.n (.ar .quo)) [(.tmp 55), (ic 2)])), (qS 7 (.mv (.tmp 56)))]) (.seq (.ops [(qS 57 (.mv (.tmp 8))), (qS 58 (.pu (.n (.ar .rem)) [(.tmp 57), (ic 2)])), (qS 59 (.pu (.n (.ar .eql)) [(.tmp 58), (ic 1)]))]) (.cond (.tmp 59) (.ops [(qS 60 (.mv (.tmp 8))), (qS 61 (.pu (.n (.ar .add)) [(.tmp 60), (ic 1)])), (qS 62 (.pu (.n (.un .neg)) [(.tmp 61)])), (qS 63 (.pu (.n (.ar .quo)) [(.tmp 62), (ic 2)])), (qS 7 (.mv (.tmp 63)))]) .skip)))) .skip)) (.block 2 (.loop (.seq (.seq (.ops [(qS 64 (.mv (.tmp 6))), (qS 65 (.pu (.n (.ar .gtr)) [(.tmp 64), (ic 0)]))]) (.cond (.tmp 65) .skip (.exit 2))) (.seq (.block 3 (.seq (.ops [(qS 68 (.mv (.tmp 3))), (qS 69 (.mv (.tmp 5))), (qS 70 (.buildSl 1 false 1 [(.int .i64 0)] [(0, (.tmp 69))])), (qS 71 (.append 1 false 8 (.tmp 68) (.tmp 70))), (qS 3 (.mv (.tmp 71)))]) (.seq (.seq (.ops [(qS 72 (.mv (.tmp 6))), (qS 73 (.pu (.n (.ar .gtr)) [(.tmp 72), (ic 1)])), (qS 74 (.mv (.tmp 73))), ⟨(.some 75), (.mv (.tmp 5)), (.some (74, true)), [], .none⟩, ⟨(.some 76), (.mv (.tmp 7)), (.some (74, true)), [], .none⟩, ⟨(.some 77), (.pu (.n (.ar .add)) [(.tmp 75), (.tmp 76)]), (.some (74, true)), [], .none⟩, ⟨(.some 78), (.pu (.n (.ar .lss)) [(.tmp 77), (ic 0)]), (.some (74, true)), [], .none⟩, ⟨(.some 79), (.mv (.tmp 78)), (.some (74, true)), [], .none⟩, ⟨(.some 80), (.mv (.tmp 5)), (.some (79, false)), [], .none⟩, ⟨(.some 81), (.mv (.tmp 7)), (.some (79, false)), [], .none⟩, ⟨(.some 82), (.pu (.n (.ar .add)) [(.tmp 80), (.tmp 81)]), (.some (79, false)), [], .none⟩, ⟨(.some 83), (.pu (.n (.ar .gtr)) [(.tmp 82), (ic 1152921504606846975)]), (.some (79, false)), [], .none⟩, ⟨(.some 84), (.pick (.tmp 79) (.const (.bool true)) (.tmp 83)), (.some (74, true)), [], .none⟩, (qS 85 (.pick (.tmp 74) (.tmp 84) (.const (.bool false))))]) (.cond (.tmp 85) (.seq (.ops [(qS 86 (.mv (.tmp 0))), (qS 87 (.nilChk (.tmp 86))), (qS 88 (.fieldA 2 (.tmp 87))), ⟨.none, (.storeV [(0, false)] 1 (.tmp 88) (.const (.bool true))), .none, [], .none⟩]) (.seq (.ops [(qS 89 (.mv (.tmp 3))), (qS 2 (.mv (.tmp 89)))]) .ret)) .skip)) (.ops [(qS 90 (.mv (.tmp 5))), (qS 91 (.mv (.tmp 7))), (qS 92 (.pu (.n (.ar .add)) [(.tmp 90), (.tmp 91)])), (qS 5 (.mv (.tmp 92)))])))) (.ops [(qS 66 (.mv (.tmp 6))), (qS 67 (.pu (.n (.ar .sub)) [(.tmp 66), (ic 1)])), (qS 6 (.mv (.tmp 67)))])))))))))))))⟩ t h ⟨Q⟩ := by
  refine W_loopP 0 (fun (x : List Int × TReader) t h => t 0 = .ptr pb 3 0 ∧ t 3 = .hsl B x.1.length 0 1 false x.1.length ∧ t 4 = .i (.s (.int .i64 n)) ∧ RunR hh h pb B x.2 x.1)
    (fun x t h => t 2 = .hsl B x.a.length 0 1 false x.a.length ∧ RunR hh h pb B x.b x.a) ?_ hp ⟨g0, g3, g4, q⟩ ?_
  · clear g0 g3 g4 q hp hQ hR
    rintro ⟨s, r⟩ ee t h ⟨g0, g3, g4, q⟩ hp
    simp only at g3 q
    simp only [p_spec_l01Reader_runs_l0] at hp
    have rT := q.rd
    by_cases h1 : (s.length : Int) < n
    · rw [if_pos h1] at hp
      by_cases hb : r.bad = true
      · rw [if_pos hb] at hp
        cases hp
        simp (maxSteps := 2000000) (disch := omega) only [gw, Nat.reduceAdd, Nat.reduceMul, g0, g3, g4, h1, rT, hb]
        exact q
      · rw [if_neg hb] at hp
        split at hp
        case isFalse => cases hp
        rename_i hn
        have hb := eq_false_of_ne_true hb
        obtain ⟨⟨a1, r1⟩, hq1, hp⟩ := Option.bind_eq_some_iff.1 hp
        obtain ⟨⟨a2, r2⟩, hq2, hp⟩ := Option.bind_eq_some_iff.1 hp
        simp only at hq2 hp
        obtain ⟨⟨w1, h1'⟩, e1, k1, rfl, c1⟩ := e_num r ⟨a1, r1⟩ hq1 pb h q.rd
        have q1 := q.num k1 c1
        obtain ⟨⟨w2, h2'⟩, e2, k2, rfl, c2⟩ := e_num r1 ⟨a2, r2⟩ hq2 pb h1' q1.rd
        have q2 := q1.num k2 c2
        have rT2 := q2.rd
        simp only at e1 e2 q1 q2 rT2
        by_cases b2 : r2.bad = true
        · rw [if_pos (.inl b2)] at hp
          cases hp
          simp (maxSteps := 2000000) (disch := omega) only [gw, Nat.reduceAdd, Nat.reduceMul, g0, g3, g4, h1, rT, hb, e1, e2, rT2, b2]
          exact q2.bad
        have b2' := eq_false_of_ne_true b2
        by_cases b3 : a2 < 1
        · rw [if_pos (.inr (.inl b3))] at hp
          cases hp
          simp (maxSteps := 2000000) (disch := omega) only [gw, Nat.reduceAdd, Nat.reduceMul, g0, g3, g4, h1, rT, hb, e1, e2, rT2, b2', b3]
          exact q2.bad
        by_cases b4 : n - s.length < a2
        · rw [if_pos (.inr (.inr (.inl b4)))] at hp
          cases hp
          simp (maxSteps := 2000000) (disch := omega) only [gw, Nat.reduceAdd, Nat.reduceMul, g0, g3, g4, h1, rT, hb, e1, e2, rT2, b2', b3, b4]
          exact q2.bad
        by_cases b5 : 1152921504606846975 < a1
        · rw [if_pos (.inr (.inr (.inr b5)))] at hp
          cases hp
          simp (maxSteps := 2000000) (disch := omega) only [gw, Nat.reduceAdd, Nat.reduceMul, g0, g3, g4, h1, rT, hb, e1, e2, rT2, b2', b3, b4, b5]
          exact q2.bad
        rw [if_neg (by rintro (h | h | h | h) <;> first | exact b2 h | exact b3 h | exact b4 h | exact b5 h)] at hp
        by_cases b6 : 1 < a2
        · rw [if_pos b6] at hp
          obtain ⟨⟨a3, r3⟩, hq3, hp⟩ := Option.bind_eq_some_iff.1 hp
          simp only at hp
          obtain ⟨e', he, rfl⟩ := Option.map_eq_some_iff.1 hp
          obtain ⟨⟨w3, h3'⟩, e3, k3, rfl, c3⟩ := e_num r2 ⟨a3, r3⟩ hq3 pb h2' q2.rd
          have q3 := q2.num k3 c3
          simp only at e3 q3
          unfold halfS at he
          by_cases b7 : Int.tmod a3 2 = 1
          · rw [if_pos b7] at he
            have b7' := decide_eq_true b7
            simp (maxSteps := 2000000) (disch := omega) only [gw, Nat.reduceAdd, Nat.reduceMul, g0, g3, g4, h1, rT, hb, e1, e2, rT2, b2', b3, b4, b5, b6, e3, b7']
            refine spec_inner q3 he g0 g3 g4 rfl rfl rfl ?_ ?_
            · rintro s' v' k' t' h' rfl g0 g3 g4 q
              simp (maxSteps := 2000000) (disch := omega) only [gw, Nat.reduceAdd, Nat.reduceMul, g0, g3, g4]
              exact ⟨rfl, q⟩
            · rintro x t' h' rfl g2 q
              simp (maxSteps := 2000000) (disch := omega) only [gw, Nat.reduceAdd, Nat.reduceMul, g2]
              exact ⟨rfl, q⟩
          · rw [if_neg b7] at he
            have b7' := decide_eq_false b7
            simp (maxSteps := 2000000) (disch := omega) only [gw, Nat.reduceAdd, Nat.reduceMul, g0, g3, g4, h1, rT, hb, e1, e2, rT2, b2', b3, b4, b5, b6, e3, b7']
            refine spec_inner q3 he g0 g3 g4 rfl rfl rfl ?_ ?_
            · rintro s' v' k' t' h' rfl g0 g3 g4 q
              simp (maxSteps := 2000000) (disch := omega) only [gw, Nat.reduceAdd, Nat.reduceMul, g0, g3, g4]
              exact ⟨rfl, q⟩
            · rintro x t' h' rfl g2 q
              simp (maxSteps := 2000000) (disch := omega) only [gw, Nat.reduceAdd, Nat.reduceMul, g2]
              exact ⟨rfl, q⟩
        · rw [if_neg b6] at hp
          obtain ⟨e', he, rfl⟩ := Option.map_eq_some_iff.1 hp
          simp (maxSteps := 2000000) (disch := omega) only [gw, Nat.reduceAdd, Nat.reduceMul, g0, g3, g4, h1, rT, hb, e1, e2, rT2, b2', b3, b4, b5, b6]
          refine spec_inner q2 he g0 g3 g4 rfl rfl rfl ?_ ?_
          · rintro s' v' k' t' h' rfl g0 g3 g4 q
            simp (maxSteps := 2000000) (disch := omega) only [gw, Nat.reduceAdd, Nat.reduceMul, g0, g3, g4]
            exact ⟨rfl, q⟩
          · rintro x t' h' rfl g2 q
            simp (maxSteps := 2000000) (disch := omega) only [gw, Nat.reduceAdd, Nat.reduceMul, g2]
            exact ⟨rfl, q⟩
    · rw [if_neg h1] at hp
      cases hp
      simp (maxSteps := 2000000) (disch := omega) only [gw, Nat.reduceAdd, Nat.reduceMul, g0, g3, g4, h1]
      exact q
  · intro x t' h' hx
    cases e with
    | out y =>
      obtain ⟨s', r'⟩ := y
      obtain ⟨rfl, g0, g3, g4, q⟩ := hx
      exact hQ s' r' t' h' rfl g3 q
    | ret y =>
      obtain ⟨rfl, g2, q⟩ := hx
      exact hR y t' h' rfl g2 q
def k_spec_l01Reader_runs (F : Fun) : Prop := ∀ (x0 : TReader) (b : T2 (List Int) TReader), p_spec_l01Reader_runs x0 = some b → ∀ (pb : Nat) (h : Heap), getCells h pb 3 = some (rdC x0) → ∃ p, F none [.ptr pb 3 0] h = some p ∧ i_runs pb h b p.1 p.2
theorem w_spec_l01Reader_runs {P : Program} {env : Env} {f_spec_l01Reader_count f_spec_l01Reader_num : Nat} (e_count : k_spec_l01Reader_count (env (2 * f_spec_l01Reader_count + 1))) (e_num : k_spec_l01Reader_num (env (2 * f_spec_l01Reader_num + 1))) (x0 : TReader) {b : T2 (List Int) TReader} (hp : p_spec_l01Reader_runs x0 = some b) (pb : Nat) (hh : Heap) (pf : getCells hh pb 3 = some (rdC x0)) : R P env (c_spec_l01Reader_runs f_spec_l01Reader_count f_spec_l01Reader_num) [.ptr pb 3 0] hh (i_runs pb hh b) := by
  refine R_of (by simp [c_spec_l01Reader_runs]) ?_
  unfold c_spec_l01Reader_runs
  obtain ⟨⟨n, r⟩, hc, hp⟩ := Option.bind_eq_some_iff.1 hp
  obtain ⟨e, he, hp⟩ := Option.bind_eq_some_iff.1 hp
  simp only at he hp
  have lp := gc_lt pf
  obtain ⟨⟨w1, h1⟩, e1, k1, rfl, c1⟩ := e_count x0 ⟨n, r⟩ hc pb (hh ++ [Slot.virt, Slot.cells []]) (gc_app pf)
  simp only at e1 k1 c1
  have l1 := k1.len
  simp only [List.length_append, List.length_cons, List.length_nil] at l1
  have q : RunR hh h1 pb (hh.length + 1) r [] := by
    refine ⟨c1, ?_, lp, by omega, ⟨by omega, fun b hb hn => ?_⟩⟩
    · refine (keep_get k1 (by simp) (by simp; omega)).trans ?_
      rw [gc_right]
      rfl
    · rw [k1.at_ b (by simp; omega) hn, List.getElem?_append_left hb]
  simp (maxSteps := 2000000) (disch := omega) only [gw, Nat.reduceAdd, Nat.reduceMul, e1]
  refine spec_outer e_num q he rfl rfl rfl ?_ ?_
  · rintro s' r' t' h' rfl g3 q
    cases hp
    simp (maxSteps := 2000000) (disch := omega) only [gw, Nat.reduceAdd, Nat.reduceMul, g3]
    exact ⟨_, rfl, q⟩
  · rintro x t' h' rfl g2 q
    cases hp
    simp (maxSteps := 2000000) (disch := omega) only [gw, Nat.reduceAdd, Nat.reduceMul, g2]
    exact ⟨_, rfl, q⟩
theorem ko_spec_l01Reader_runs {P : Program} {env : Env} {f_spec_l01Reader_count f_spec_l01Reader_num : Nat} (e_count : k_spec_l01Reader_count (env (2 * f_spec_l01Reader_count + 1))) (e_num : k_spec_l01Reader_num (env (2 * f_spec_l01Reader_num + 1))) : k_spec_l01Reader_runs (runIn P env (c_spec_l01Reader_runs f_spec_l01Reader_count f_spec_l01Reader_num)) := by
  intro x0 b hp pb h a0
  exact w_spec_l01Reader_runs e_count e_num x0 hp pb h a0
end Go.AM

set_option linter.unusedVariables false
set_option linter.unusedSimpArgs false
set_option maxRecDepth 20000
namespace Go.AM
open Pic (enc dec dec_enc dec_sub)
open PicA (encA decA decA_encA decA_sub)
noncomputable def p_impl_appendInt_l0 : List U8 × Int → Option (Lp (List U8 × Int) (List U8))
  | (s0, s1) =>
    if (decide (128 ≤ s1)) = true then
      (app? 1 s0 ([(U8.mk (orI .u8 (IntKind.wrap .u8 (andI .i64 s1 127)) 128))])).bind fun v3 =>
      (shr? .i64 s1 7).bind fun v4 =>
      some (.go (v3, v4))
    else
      some (.out (s0, s1))
noncomputable def p_impl_appendInt (x0 : List U8) (x1 : Int) : Option (List U8) :=
  (loopP (p_impl_appendInt_l0) (x0, x1)).bind fun ee0 => match ee0 with
  | .ret r => some r
  | .out (o5, o6) =>
    (app? 1 o5 ([(U8.mk (IntKind.wrap .u8 o6))])).bind fun v7 =>
    some v7
def c_impl_appendInt : AFn := ⟨21, (.seq (.ops [(qS 4 (.vnil 1 false))]) (.seq (.block 0 (.loop (.seq (.seq (.ops [(qS 5 (.mv (.tmp 1))), (qS 6 (.pu (.n (.ar .geq)) [(.tmp 5), (ic 128)]))]) (.cond (.tmp 6) .skip (.exit 0))) (.block 1 (.seq (.ops [(qS 7 (.mv (.tmp 0))), (qS 8 (.mv (.tmp 1))), (qS 9 (.pu (.n (.ar .and)) [(.tmp 8), (ic 127)])), (qS 10 (.pu (.n (.conv .u8)) [(.tmp 9)])), (qS 11 (.pu (.n (.ar .or)) [(.tmp 10), (.const (.int .u8 128))])), (qS 12 (.buildSl 1 false 1 [(.int .u8 0)] [(0, (.tmp 11))])), (qS 13 (.append 1 false 1 (.tmp 7) (.tmp 12))), (qS 0 (.mv (.tmp 13)))]) (.ops [(qS 14 (.mv (.tmp 1))), (qS 15 (.pu (.n (.ar .shr)) [(.tmp 14), (.const (.int .u64 7))])), (qS 1 (.mv (.tmp 15)))])))))) (.seq (.ops [(qS 16 (.mv (.tmp 0))), (qS 17 (.mv (.tmp 1))), (qS 18 (.pu (.n (.conv .u8)) [(.tmp 17)])), (qS 19 (.buildSl 1 false 1 [(.int .u8 0)] [(0, (.tmp 18))])), (qS 20 (.append 1 false 1 (.tmp 16) (.tmp 19))), (qS 4 (.mv (.tmp 20)))]) .ret))), [(.tmp 4)]⟩
def i_impl_appendInt (pb0 pn0 : Nat) (h : Heap) (b : List U8) (v : V) (h2 : Heap) : Prop := Keep [pb0] h h2 ∧ v = .hsl pb0 b.length 0 1 false b.length ∧ getCells h2 pb0 b.length = some (rows b)
def k1_impl_appendInt (F : Fun) : Prop := ∀ (x0 : List U8) (x1 : Int) (b : List U8), p_impl_appendInt x0 x1 = some b → ∀ (pb0 pn0 : Nat) (h : Heap), pn0 = (x0).length → getCells h pb0 pn0 = some (rows x0) → ∃ p, F none [.hsl pb0 pn0 0 1 false pn0, .i (.s (.int .i64 x1))] h = some p ∧ i_impl_appendInt pb0 pn0 h b p.1 p.2
set_option maxHeartbeats 10000000 in
theorem w_impl_appendInt {P : Program} {env : Env}  (x0 : List U8) (x1 : Int) {b : List U8} (hp : p_impl_appendInt x0 x1 = some b) (pb0 pn0 : Nat) (hh : Heap) (pm0 : pn0 = (x0).length) (pf0 : getCells hh pb0 pn0 = some (rows x0)) : R P env (c_impl_appendInt) [.hsl pb0 pn0 0 1 false pn0, .i (.s (.int .i64 x1))] hh (i_impl_appendInt pb0 pn0 hh b) := by
  have pl0 := gc_lt pf0
  have pg0 : getCells hh pb0 x0.length = some (rows x0) := by rw [← pm0]; exact pf0
  refine R_of (by simp [c_impl_appendInt, encA]) ?_
  unfold c_impl_appendInt
  unfold p_impl_appendInt at hp
  obtain ⟨ee0, hee0, hp⟩ := bind_eq hp
  simp (maxSteps := 2000000) (disch := first|omega|(simp only[ls];first|done|omega)) only [pf0, pg0, gm]
  refine W_loopP 0 (fun s t h => match s with | (s0, s1) => t 0 = .hsl pb0 s0.length 0 1 false s0.length ∧ t 1 = .i (.s (.int .i64 s1)) ∧ getCells h pb0 s0.length = some (rows (s0 : List U8)) ∧ pb0 < h.length ∧ Keep [pb0] hh h) (RK [.tmp 4] (i_impl_appendInt pb0 pn0 hh)) ?_ hee0 ?_ ?_
  · rintro ⟨s0, s1⟩ ee tt0 hh0 ⟨ftt0_0, ftt0_1, ftt0_2, ftt0_3, ftt0_4⟩ hp
    rw [p_impl_appendInt_l0] at hp
    by_cases hb2 : (decide (128 ≤ s1)) = true
    · rw [if_t hb2] at hp
      obtain ⟨v3, hv3, hp⟩ := bind_eq hp
      obtain ⟨kv3, qv3, lv3⟩ := app_some hv3
      have rv3 : rows s0 ++ [.i (.s (.int .u8 (orI .u8 (IntKind.wrap .u8 (andI .i64 s1 127)) 128)))] = rows v3 := by rw [qv3, rows_append]; rfl
      have mv3 : s0.length + 1 = v3.length := by simp at lv3; omega
      have nv3 : (s0.length + 1) * 1 ≤ 140737488355328 := by simp at kv3; omega
      obtain ⟨v4, hv4, hp⟩ := bind_eq hp
      have hp := Option.some.inj hp
      subst hp
      simp (maxSteps := 2000000) (disch := first|omega|(simp only[ls];first|done|omega)) only [i_impl_appendInt, pf0, pg0, ftt0_0, ftt0_1, ftt0_2, ftt0_3, ftt0_4, hb2, hv3, rv3, nv3, hv4, gm] <;> (repeat (first | omega | assumption | rfl | exact keep_refl | refine keep_app ?_ | (refine keep_set (by first | (left; simp; done) | (right; simp; omega)) ?_) | refine And.intro ?_ ?_))
    · replace hb2 := eq_false_of_ne_true hb2
      rw [if_f hb2] at hp
      have hp := Option.some.inj hp
      subst hp
      simp (maxSteps := 2000000) (disch := first|omega|(simp only[ls];first|done|omega)) only [i_impl_appendInt, pf0, pg0, ftt0_0, ftt0_1, ftt0_2, ftt0_3, ftt0_4, hb2, gm] <;> (repeat (first | omega | assumption | rfl | exact keep_refl | refine keep_app ?_ | (refine keep_set (by first | (left; simp; done) | (right; simp; omega)) ?_) | refine And.intro ?_ ?_))
  · simp (maxSteps := 2000000) (disch := first|omega|(simp only[ls];first|done|omega)) only [i_impl_appendInt, pf0, pg0, gm] <;> (repeat (first | omega | assumption | rfl | exact keep_refl | refine keep_app ?_ | (refine keep_set (by first | (left; simp; done) | (right; simp; omega)) ?_) | refine And.intro ?_ ?_))
  · intro x tt1 hh1 hx
    rcases ee0 with ⟨o5, o6⟩ | r
    · obtain ⟨rfl, ftt1_0, ftt1_1, ftt1_2, ftt1_3, ftt1_4⟩ := hx
      dsimp only at hp
      obtain ⟨v7, hv7, hp⟩ := bind_eq hp
      obtain ⟨kv7, qv7, lv7⟩ := app_some hv7
      have rv7 : rows o5 ++ [.i (.s (.int .u8 (IntKind.wrap .u8 o6)))] = rows v7 := by rw [qv7, rows_append]; rfl
      have mv7 : o5.length + 1 = v7.length := by simp at lv7; omega
      have nv7 : (o5.length + 1) * 1 ≤ 140737488355328 := by simp at kv7; omega
      have hp := Option.some.inj hp
      subst hp
      simp (maxSteps := 2000000) (disch := first|omega|(simp only[ls];first|done|omega)) only [i_impl_appendInt, pf0, pg0, ftt1_0, ftt1_1, ftt1_2, ftt1_3, ftt1_4, hv7, rv7, nv7, gm] <;> (repeat (first | omega | assumption | rfl | exact keep_refl | refine keep_app ?_ | (refine keep_set (by first | (left; simp; done) | (right; simp; omega)) ?_) | refine And.intro ?_ ?_))
    · obtain ⟨rfl, hx⟩ := hx
      dsimp only at hp
      cases hp
      simp only [seqK_ret, blockK_ret, retK_RK (K := i_impl_appendInt pb0 pn0 hh), hx, and_self, true_and]
theorem ko1_impl_appendInt {P : Program} {env : Env}  : k1_impl_appendInt (runIn P env (c_impl_appendInt)) := by
  intro x0 x1 b hp pb0 pn0 h a0 a1
  exact w_impl_appendInt x0 x1 hp pb0 pn0 h a0 a1

noncomputable def p_impl_appendRuns_l0 (x1 : List Int) : List U8 × Int → Option (Lp (List U8 × Int) (List U8))
  | (s1, s2) =>
    if (decide (s2 < (x1.length : Int))) = true then
      (p_impl_runLen x1 s2).bind fun v4 =>
      (get? x1 s2).bind fun v5 =>
      (p_impl_appendInt s1 v5).bind fun v6 =>
      (p_impl_appendInt v6 v4).bind fun v7 =>
      if (decide (2 ≤ v4)) = true then
        (get? x1 (w64 (s2 + 1))).bind fun v9 =>
        (p_impl_zig (w64 (v9 - v5))).bind fun v10 =>
        (p_impl_appendInt v7 v10).bind fun v11 =>
        some (.go (v11, w64 (s2 + v4)))
      else
        some (.go (v7, w64 (s2 + v4)))
    else
      some (.out (s1, s2))
noncomputable def p_impl_appendRuns (x0 : List U8) (x1 : List Int) : Option (List U8) :=
  (p_impl_appendInt x0 (x1.length : Int)).bind fun v0 =>
  (loopP (p_impl_appendRuns_l0 x1) (v0, 0)).bind fun ee0 => match ee0 with
  | .ret r => some r
  | .out (o12, o13) =>
    some o12
def c_impl_appendRuns (f_impl_appendInt : Nat) (f_impl_runLen : Nat) (f_impl_zig : Nat) : AFn := ⟨46, (.seq (.ops [(qS 4 (.vnil 1 false))]) (.seq (.ops [(qS 7 (.mv (.tmp 0))), (qS 8 (.mv (.tmp 1))), (qS 9 (.len (.tmp 8))), (qS 10 (.call (2 * f_impl_appendInt + 1) [(.tmp 7), (.tmp 9)])), (qS 0 (.mv (.tmp 10)))]) (.seq (.seq (.ops [(qS 5 (.mv (ic 0)))]) (.block 0 (.loop (.seq (.seq (.ops [(qS 11 (.mv (.tmp 5))), (qS 12 (.mv (.tmp 1))), (qS 13 (.len (.tmp 12))), (qS 14 (.pu (.n (.ar .lss)) [(.tmp 11), (.tmp 13)]))]) (.cond (.tmp 14) .skip (.exit 0))) (.block 1 (.seq (.ops [(qS 15 (.mv (.tmp 1))), (qS 16 (.mv (.tmp 5))), (qS 17 (.call (2 * f_impl_runLen) [(.tmp 15), (.tmp 16)])), (qS 6 (.mv (.tmp 17)))]) (.seq (.ops [(qS 18 (.mv (.tmp 0))), (qS 19 (.mv (.tmp 1))), (qS 20 (.mv (.tmp 5))), (qS 21 (.idxS 1 (.tmp 19) (.tmp 20))), (qS 22 (.load 1 false (.tmp 21))), (qS 23 (.call (2 * f_impl_appendInt + 1) [(.tmp 18), (.tmp 22)])), (qS 0 (.mv (.tmp 23)))]) (.seq (.ops [(qS 24 (.mv (.tmp 0))), (qS 25 (.mv (.tmp 6))), (qS 26 (.call (2 * f_impl_appendInt + 1) [(.tmp 24), (.tmp 25)])), (qS 0 (.mv (.tmp 26)))]) (.seq (.seq (.ops [(qS 27 (.mv (.tmp 6))), (qS 28 (.pu (.n (.ar .geq)) [(.tmp 27), (ic 2)]))]) (.cond (.tmp 28) (.ops [(qS 29 (.mv (.tmp 0))), (qS 30 (.mv (.tmp 1))), (qS 31 (.mv (.tmp 5))), (qS 32 (.pu (.n (.ar .add)) [(.tmp 31), (ic 1)])), (qS 33 (.idxS 1 (.tmp 30) (.tmp 32))), (qS 34 (.load 1 false (.tmp 33))), (qS 35 (.mv (.tmp 1))), (qS 36 (.mv (.tmp 5))), (qS 37 (.idxS 1 (.tmp 35) (.tmp 36))), (qS 38 (.load 1 false (.tmp 37))), (qS 39 (.pu (.n (.ar .sub)) [(.tmp 34), (.tmp 38)])), (qS 40 (.call (2 * f_impl_zig) [(.tmp 39)])), (qS 41 (.call (2 * f_impl_appendInt + 1) [(.tmp 29), (.tmp 40)])), (qS 0 (.mv (.tmp 41)))]) .skip)) (.ops [(qS 42 (.mv (.tmp 5))), (qS 43 (.mv (.tmp 6))), (qS 44 (.pu (.n (.ar .add)) [(.tmp 42), (.tmp 43)])), (qS 5 (.mv (.tmp 44)))])))))))))) (.seq (.ops [(qS 45 (.mv (.tmp 0))), (qS 4 (.mv (.tmp 45)))]) .ret)))), [(.tmp 4)]⟩
end Go.AM

set_option linter.unusedVariables false
set_option linter.unusedSimpArgs false
set_option maxRecDepth 20000
namespace Go.AM
open Pic (enc dec dec_enc dec_sub)
open PicA (encA decA decA_encA decA_sub)

abbrev nilL : V := .i (.s (.slice none 0 0))
/-- A list of bytes that is nil yet, or stands in a block of its own. -/
structure UB (hh h : Heap) (u : V) (s : List U8) : Prop where
  kp : Keep [] hh h
  or_ : (s = [] ∧ u = nilL) ∨ ∃ B, hh.length ≤ B ∧ u = .hsl B s.length 0 1 false s.length ∧ getCells h B s.length = some (rows s)
theorem UB.push {hh h : Heap} {u : V} {s : List U8} (q : UB hh h u s) (x : Int) (hl : (s.length + 1) * 1 ≤ 140737488355328) :
    ∃ u' h', stepAppend none 1 false 1 (h ++ [Slot.cells [.i (.s (.int .u8 x))]]) [.i (.s (.int .u8 x))] 1 u = some (u', h') ∧ UB hh h' u' (s ++ [⟨x⟩]) ∧ ∃ B, hh.length ≤ B ∧ u' = .hsl B (s ++ [U8.mk x]).length 0 1 false (s ++ [U8.mk x]).length ∧ getCells h' B (s ++ [U8.mk x]).length = some (rows (s ++ [U8.mk x])) := by
  have h3 := q.kp.len
  rcases q.or_ with ⟨rfl, rfl⟩ | ⟨B, hB, rfl, hg⟩
  · have e : stepAppend none 1 false 1 (h ++ [Slot.cells [.i (.s (.int .u8 x))]]) [.i (.s (.int .u8 x))] 1 nilL = some (.hsl (h.length + 1) 1 0 1 false 1, h ++ [Slot.cells [.i (.s (.int .u8 x))]] ++ [Slot.cells [.i (.s (.int .u8 x))]]) := by
      simp [stepAppend, newSlot]
    have g : getCells (h ++ [Slot.cells [.i (.s (.int .u8 x))]] ++ [Slot.cells [.i (.s (.int .u8 x))]]) (h.length + 1) ([] ++ [U8.mk x]).length = some (rows ([] ++ [U8.mk x])) := by
      rw [List.append_assoc, gc_right]
      rfl
    exact ⟨_, _, e, ⟨keep_app (keep_app q.kp), .inr ⟨h.length + 1, by omega, rfl, g⟩⟩, h.length + 1, by omega, rfl, g⟩
  · have lB := gc_lt hg
    have hg2 := gc_app (l := [Slot.cells [.i (.s (.int .u8 x))]]) hg
    have e : stepAppend none 1 false 1 (h ++ [Slot.cells [.i (.s (.int .u8 x))]]) [.i (.s (.int .u8 x))] 1 (.hsl B s.length 0 1 false s.length) = some (.hsl B (s ++ [U8.mk x]).length 0 1 false (s ++ [U8.mk x]).length, (h ++ [Slot.cells [.i (.s (.int .u8 x))]]).set B (.cells (rows s ++ [.i (.s (.int .u8 x))]))) := by
      rw [app_hsl, if_pos ⟨.inl rfl, rfl⟩, hg2, Option.bind_some, if_neg (by decide), if_pos hl, if_pos (by omega), List.length_append]
      rfl
    have g : getCells ((h ++ [Slot.cells [.i (.s (.int .u8 x))]]).set B (.cells (rows s ++ [.i (.s (.int .u8 x))]))) B (s ++ [U8.mk x]).length = some (rows (s ++ [U8.mk x])) := by
      rw [gc_set_eq (by simp; omega), rows_append, if_pos (by rw [List.length_append, rows_len, List.length_append]; simp [z_u8])]
      rfl
    exact ⟨_, _, e, ⟨keep_set (.inr hB) (keep_app q.kp), .inr ⟨B, hB, rfl, g⟩⟩, B, hB, rfl, g⟩

def k0_impl_appendInt (F : Fun) : Prop := ∀ (n : Int) (b : List U8), p_impl_appendInt [] n = some b → ∀ (h : Heap), ∃ p, F none [nilL, .i (.s (.int .i64 n))] h = some p ∧ Keep [] h p.2 ∧ ∃ B, h.length ≤ B ∧ p.1 = .hsl B b.length 0 1 false b.length ∧ getCells p.2 B b.length = some (rows b)
def i0_appendInt (hh : Heap) (b : List U8) (v : V) (h2 : Heap) : Prop := Keep [] hh h2 ∧ ∃ B, hh.length ≤ B ∧ v = .hsl B b.length 0 1 false b.length ∧ getCells h2 B b.length = some (rows b)
set_option maxHeartbeats 4000000 in
theorem w0_impl_appendInt {P : Program} {env : Env} (n : Int) {b : List U8} (hp : p_impl_appendInt [] n = some b) (hh : Heap) : R P env c_impl_appendInt [nilL, .i (.s (.int .i64 n))] hh (i0_appendInt hh b) := by
  refine R_of (by simp [c_impl_appendInt]) ?_
  unfold c_impl_appendInt
  obtain ⟨e, he, hp⟩ := Option.bind_eq_some_iff.1 hp
  simp (maxSteps := 2000000) (disch := omega) only [gw, Nat.reduceAdd, Nat.reduceMul]
  refine W_loopP 0 (fun (x : List U8 × Int) t h => t 1 = .i (.s (.int .i64 x.2)) ∧ UB hh h (t 0) x.1) (fun _ _ _ => False) ?_ he ⟨rfl, ⟨keep_app keep_refl, .inl ⟨rfl, rfl⟩⟩⟩ ?_
  · clear he hp
    rintro ⟨s, v⟩ ee t h ⟨g1, q⟩ hp
    simp only at g1 q
    rw [p_impl_appendInt_l0] at hp
    by_cases h1 : (decide (128 ≤ v)) = true
    · rw [if_t h1] at hp
      obtain ⟨v3, hv3, hp⟩ := bind_eq hp
      obtain ⟨v4, hv4, hp⟩ := bind_eq hp
      obtain ⟨kv3, qv3, lv3⟩ := app_some hv3
      cases hp
      obtain ⟨u', h', p1, q', _⟩ := q.push (orI .u8 (IntKind.wrap .u8 (andI .i64 v 127)) 128) (by simp at kv3; omega)
      rw [qv3]
      generalize hu : t 0 = u at p1 q
      simp (maxSteps := 2000000) (disch := omega) only [gw, Nat.reduceAdd, Nat.reduceMul, g1, hu, h1, hv4, p1]
      exact q'
    · rw [if_f (eq_false_of_ne_true h1)] at hp
      cases hp
      have h1' := eq_false_of_ne_true h1
      simp (maxSteps := 2000000) (disch := omega) only [gw, Nat.reduceAdd, Nat.reduceMul, g1, h1']
      exact q
  · intro x t h hx
    cases e with
    | ret r => exact hx.2.elim
    | out y =>
      obtain ⟨s, v⟩ := y
      obtain ⟨rfl, g1, q⟩ := hx
      obtain ⟨v7, hv7, hp⟩ := bind_eq hp
      obtain ⟨kv7, qv7, lv7⟩ := app_some hv7
      cases hp
      obtain ⟨u', h', p1, q', B, hB, rfl, hg⟩ := q.push (IntKind.wrap .u8 v) (show (s.length + 1) * 1 ≤ 140737488355328 from kv7.resolve_left (by simp))
      rw [qv7]
      simp only at g1
      generalize hu : t 0 = u at p1 q
      simp (maxSteps := 2000000) (disch := omega) only [gw, Nat.reduceAdd, Nat.reduceMul, g1, hu, p1]
      exact ⟨q'.kp, B, hB, by rw [List.length_append]; rfl, hg⟩
theorem ko0_impl_appendInt {P : Program} {env : Env} : k0_impl_appendInt (runIn P env c_impl_appendInt) := by
  intro n b hp h
  exact w0_impl_appendInt n hp h
def k_impl_appendInt (F : Fun) : Prop := k1_impl_appendInt F ∧ k0_impl_appendInt F
theorem ko_impl_appendInt {P : Program} {env : Env} : k_impl_appendInt (runIn P env c_impl_appendInt) := ⟨ko1_impl_appendInt, ko0_impl_appendInt⟩

/-! ### runs appended to nothing -/
def k_impl_appendRuns (F : Fun) : Prop := ∀ (x : List Int) (b : List U8), p_impl_appendRuns [] x = some b → ∀ (h : Heap) (args : List V), snapA 9 false h args = some [.s (.slice none 0 0), .sl 1 (x.map enc)] → ∃ p, F none args h = some p ∧ Keep [] h p.2 ∧ ∃ n0 : Nat, p.1 = .hsl n0 b.length 0 1 false b.length ∧ n0 < p.2.length ∧ h.length ≤ n0 ∧ getCells p.2 n0 b.length = some (rows b)
def o0_appendRuns (b : List U8) (v : V) (h2 : Heap) : Prop := ∃ n0 : Nat, v = .hsl n0 b.length 0 1 false b.length ∧ getCells h2 n0 b.length = some (rows b)
set_option maxHeartbeats 10000000 in
theorem w_impl_appendRuns {P : Program} {env : Env} {f_impl_appendInt f_impl_runLen f_impl_zig : Nat} (ep_impl_runLen : env (2 * f_impl_runLen) = pureFn true (FA fun a : List Int × Int => p_impl_runLen a.1 a.2)) (ep_impl_zig : env (2 * f_impl_zig) = pureFn true (FA fun a : Int => p_impl_zig a)) (e_impl_appendInt : k_impl_appendInt (env (2 * f_impl_appendInt + 1))) (x : List Int) {b : List U8} (hp : p_impl_appendRuns [] x = some b) : R P env (c_impl_appendRuns f_impl_appendInt f_impl_runLen f_impl_zig) [nilL, .i (.sl 1 (x.map enc))] [] (o0_appendRuns b) := by
  refine R_of (by simp [c_impl_appendRuns]) ?_
  unfold c_impl_appendRuns
  obtain ⟨v0, hv0, hp⟩ := bind_eq hp
  obtain ⟨e, he, hp⟩ := bind_eq hp
  obtain ⟨⟨w0, h0⟩, e0, k0, B, hB, rfl, c0⟩ := e_impl_appendInt.2 (x.length : Int) v0 hv0 [Slot.virt]
  simp only at e0 c0
  have dI : (dec (.sl 1 (x.map enc)) : Option (List Int)) = some x := dec_enc x
  simp (maxSteps := 2000000) (disch := omega) only [gw, Nat.reduceAdd, Nat.reduceMul, e0]
  refine W_loopP 0 (fun (y : List U8 × Int) t h => t 0 = .hsl B y.1.length 0 1 false y.1.length ∧ t 1 = .i (.sl 1 (x.map enc)) ∧ t 5 = .i (.s (.int .i64 y.2)) ∧ getCells h B y.1.length = some (rows y.1)) (fun _ _ _ => False) ?_ he ⟨rfl, rfl, rfl, c0⟩ ?_
  · clear he hp e0 c0 k0
    rintro ⟨s, i⟩ ee t h ⟨g0, g1, g5, hO⟩ hp
    simp only at g0 g5 hO
    rw [p_impl_appendRuns_l0] at hp
    by_cases h1 : (decide (i < (x.length : Int))) = true
    · rw [if_t h1] at hp
      obtain ⟨v4, hv4, hp⟩ := bind_eq hp
      obtain ⟨v5, hv5, hp⟩ := bind_eq hp
      obtain ⟨v6, hv6, hp⟩ := bind_eq hp
      obtain ⟨v7, hv7, hp⟩ := bind_eq hp
      obtain ⟨⟨w1, h1'⟩, e1, k1, rfl, c1⟩ := e_impl_appendInt.1 s v5 v6 hv6 B s.length h rfl hO
      obtain ⟨⟨w2, h2'⟩, e2, k2, rfl, c2⟩ := e_impl_appendInt.1 v6 v4 v7 hv7 B v6.length h1' rfl c1
      simp only at e1 e2 c1 c2
      by_cases h2 : (decide (2 ≤ v4)) = true
      · rw [if_t h2] at hp
        obtain ⟨v9, hv9, hp⟩ := bind_eq hp
        obtain ⟨v10, hv10, hp⟩ := bind_eq hp
        obtain ⟨v11, hv11, hp⟩ := bind_eq hp
        obtain ⟨⟨w3, h3'⟩, e3, k3, rfl, c3⟩ := e_impl_appendInt.1 v7 v10 v11 hv11 B v7.length h2' rfl c2
        simp only at e3 c3
        cases hp
        simp (maxSteps := 2000000) (disch := omega) only [gw, Nat.reduceAdd, Nat.reduceMul, g0, g1, g5, h1, ep_impl_runLen, dI, hv4, hv5, e1, e2, h2, hv9, ep_impl_zig, hv10, e3, enc_int]
        exact c3
      · rw [if_f (eq_false_of_ne_true h2)] at hp
        have h2' := eq_false_of_ne_true h2
        cases hp
        simp (maxSteps := 2000000) (disch := omega) only [gw, Nat.reduceAdd, Nat.reduceMul, g0, g1, g5, h1, ep_impl_runLen, dI, hv4, hv5, e1, e2, h2', enc_int]
        exact c2
    · rw [if_f (eq_false_of_ne_true h1)] at hp
      have h1' := eq_false_of_ne_true h1
      cases hp
      simp (maxSteps := 2000000) (disch := omega) only [gw, Nat.reduceAdd, Nat.reduceMul, g0, g1, g5, h1']
      exact hO
  · intro y t h hx
    cases e with
    | ret r => exact hx.2.elim
    | out z =>
      obtain ⟨s, i⟩ := z
      obtain ⟨rfl, g0, g1, g5, hO⟩ := hx
      simp only at g0 hO
      cases hp
      simp (maxSteps := 2000000) (disch := omega) only [gw, Nat.reduceAdd, Nat.reduceMul, g0]
      exact ⟨B, rfl, hO⟩
theorem ko_impl_appendRuns {P : Program} {env : Env} {f_impl_appendInt f_impl_runLen f_impl_zig : Nat} (ep_impl_runLen : env (2 * f_impl_runLen) = pureFn true (FA fun a : List Int × Int => p_impl_runLen a.1 a.2)) (ep_impl_zig : env (2 * f_impl_zig) = pureFn true (FA fun a : Int => p_impl_zig a)) (e_impl_appendInt : k_impl_appendInt (env (2 * f_impl_appendInt + 1))) : k_impl_appendRuns (ownFn P env (c_impl_appendRuns f_impl_appendInt f_impl_runLen f_impl_zig)) := by
  intro x b hp h args has
  obtain ⟨⟨v, H2⟩, hr, n0, rfl, wn0⟩ := w_impl_appendRuns ep_impl_runLen ep_impl_zig e_impl_appendInt x hp
  exact ⟨_, own_call has hr rfl, keep_moved, n0 + h.length, rfl, (moved_lt wn0).2, (moved_lt wn0).1, moved_rows wn0⟩
end Go.AM

set_option linter.unusedVariables false
set_option linter.unusedSimpArgs false
set_option maxRecDepth 20000
namespace Go.AM
open Pic (enc dec dec_enc dec_sub)
open PicA (encA decA decA_encA decA_sub)

noncomputable def p_impl_reader_runs_l2 (r : TReader) (d k : Int) : List Int × Int × Int → Option (Lp (List Int × Int × Int) (T2 (List Int) TReader))
  | (s, v, j) => if j < k then (if r.bad = true ∨ w64 (v + d) < 0 ∨ 1152921504606846975 < w64 (v + d) then some (.ret ⟨[], badR r⟩) else if s.length ≤ 1000000 then some (.go (s ++ [w64 (v + d)], w64 (v + d), w64 (j + 1))) else none) else some (.out (s, v, j))
noncomputable def p_impl_reader_runs_l0 (n : Int) : List Int × TReader → Option (Lp (List Int × TReader) (T2 (List Int) TReader))
  | (s, r) => if (s.length : Int) < n then (if n ≤ 1000000 then
      (p_impl_reader_num r).bind fun q1 => (p_impl_reader_num q1.b).bind fun q2 =>
        if q2.b.bad = true ∨ 1152921504606846975 < q1.a ∨ q2.a < 1 ∨ n - s.length < q2.a then some (.ret ⟨[], badR q2.b⟩)
        else if q2.a = 1 then some (.go (s ++ [q1.a], q2.b))
        else (p_impl_reader_num q2.b).bind fun q3 => (p_impl_zag q3.a).bind fun d => (loopP (p_impl_reader_runs_l2 q3.b d q2.a) (s ++ [q1.a], q1.a, 1)).map (goOn q3.b)
      else none) else some (.out (s, r))
noncomputable def p_impl_reader_runs (x0 : TReader) : Option (T2 (List Int) TReader) :=
  (p_impl_reader_num x0).bind fun q0 => if q0.b.bad = true ∨ 4096 < q0.a then some ⟨[], badR q0.b⟩ else
    (loopP (p_impl_reader_runs_l0 q0.a) ([], q0.b)).bind fun e => match e with
    | .ret x => some x
    | .out y => (p_impl_appendRuns [] y.1).bind fun b => (cut? y.2.b x0.at_ y.2.at_).bind fun c => if strOfNums (nums b) = strOfNums (nums c) then some ⟨y.1, y.2⟩ else some ⟨[], badR y.2⟩
def c_impl_reader_runs (f_impl_reader_num : Nat) (f_impl_zag : Nat) (f_impl_appendRuns : Nat) : AFn := ⟨113, (.seq (.ops [(qS 2 (.vnil 1 false))]) (.seq (.ops [(qS 10 (.mv (.tmp 0))), (qS 11 (.nilChk (.tmp 10))), (qS 12 (.fieldA 1 (.tmp 11))), (qS 13 (.load 1 false (.tmp 12))), (qS 3 (.mv (.tmp 13)))]) (.seq (.ops [(qS 14 (.mv (.tmp 0))), (qS 15 (.call (2 * f_impl_reader_num + 1) [(.tmp 14)])), (qS 4 (.mv (.tmp 15)))]) (.seq (.seq (.ops [(qS 16 (.mv (.tmp 0))), (qS 17 (.nilChk (.tmp 16))), (qS 18 (.fieldA 2 (.tmp 17))), (qS 19 (.load 1 false (.tmp 18))), (qS 20 (.mv (.tmp 19))), ⟨(.some 21), (.mv (.tmp 4)), (.some (20, false)), [], .none⟩, ⟨(.some 22), (.pu (.n (.ar .gtr)) [(.tmp 21), (ic 4096)]), (.some (20, false)), [], .none⟩, (qS 23 (.pick (.tmp 20) (.const (.bool true)) (.tmp 22)))]) (.cond (.tmp 23) (.seq (.ops [(qS 24 (.mv (.tmp 0))), (qS 25 (.nilChk (.tmp 24))), (qS 26 (.fieldA 2 (.tmp 25))), ⟨.none, (.storeV [(0, false)] 1 (.tmp 26) (.const (.bool true))), .none, [], .none⟩]) (.seq (.ops [(qS 2 (.vnil 1 false))]) .ret)) .skip)) (.seq (.ops [(qS 5 (.vnil 1 false))]) (.seq (.block 0 (.loop (.seq (.seq (.ops [(qS 27 (.mv (.tmp 5))), (qS 28 (.len (.tmp 27))), (qS 29 (.mv (.tmp 4))), (qS 30 (.pu (.n (.ar .lss)) [(.tmp 28), (.tmp 29)]))]) (.cond (.tmp 30) .skip (.exit 0))) (.block 1 (.seq (.ops [(qS 31 (.mv (.tmp 0))), (qS 32 (.call (2 * f_impl_reader_num + 1) [(.tmp 31)])), (qS 6 (.mv (.tmp 32)))]) (.seq (.ops [(qS 33 (.mv (.tmp 0))), (qS 34 (.call (2 * f_impl_reader_num + 1) [(.tmp 33)])), (qS 7 (.mv (.tmp 34)))]) (.seq (.seq (.ops [(qS 35 (.mv (.tmp 0))), (qS 36 (.nilChk (.tmp 35))), (qS 37 (.fieldA 2 (.tmp 36))), (qS 38 (.load 1 false (.tmp 37))), (qS 39 (.mv (.tmp 38))), ⟨(.some 40), (.mv (.tmp 6)), (.some (39, false)), [], .none⟩, ⟨(.some 41), (.pu (.n (.ar .gtr)) [(.tmp 40), (ic 1152921504606846975)]), (.some (39, false)), [], .none⟩, (qS 42 (.pick (.tmp 39) (.const (.bool true)) (.tmp 41))), (qS 43 (.mv (.tmp 42))), ⟨(.some 44), (.mv (.tmp 7)), (.some (43, false)), [], .none⟩, ⟨(.some 45), (.pu (.n (.ar .lss)) [(.tmp 44), (ic 1)]), (.some (43, false)), [], .none⟩, (qS 46 (.pick (.tmp 43) (.const (.bool true)) (.tmp 45))), (qS 47 (.mv (.tmp 46))), ⟨(.some 48), (.mv (.tmp 7)), (.some (47, false)), [], .none⟩, ⟨(.some 49), (.mv (.tmp 4)), (.some (47, false)), [], .none⟩, ⟨(.some 50), (.mv (.tmp 5)), (.some (47, false)), [], .none⟩, ⟨(.some 51), (.len (.tmp 50)), (.some (47, false)), [], .none⟩, ⟨(.some 52), (.pu (.n (.ar .sub)) [(.tmp 49), (.tmp 51)]), (.some (47, false)), [], .none⟩, ⟨(.some 53), (.pu (.n (.ar .gtr)) [(.tmp 48), (.tmp 52)]), (.some (47, false)), [], .none⟩, (qS 54 (.pick (.tmp 47) (.const (.bool true)) (.tmp 53)))]) (.cond (.tmp 54) (.seq (.ops [(qS 55 (.mv (.tmp 0))), (qS 56 (.nilChk (.tmp 55))), (qS 57 (.fieldA 2 (.tmp 56))), ⟨.none, (.storeV [(0, false)] 1 (.tmp 57) (.const (.bool true))), .none, [], .none⟩]) (.seq (.ops [(qS 2 (.vnil 1 false))]) .ret)) .skip)) (.seq (.ops [(qS 58 (.mv (.tmp 5))), (qS 59 (.mv (.tmp 6))), (qS 60 (.buildSl 1 false 1 [(.int .i64 0)] [(0, (.tmp 59))])), (qS 61 (.append 1 false 8 (.tmp 58) (.tmp 60))), (qS 5 (.mv (.tmp 61)))]) (.seq (.seq (.ops [(qS 62 (.mv (.tmp 7))), (qS 63 (.pu (.n (.ar .eql)) [(.tmp 62), (ic 1)]))]) (.cond (.tmp 63) (.exit 1) .skip)) (.seq (.ops [(qS 64 (.mv (.tmp 0))), (qS 65 (.call (2 * f_impl_reader_num + 1) [(.tmp 64)])), (qS 66 (.call (2 * f_impl_zag) [(.tmp 65)])), (qS 8 (.mv (.tmp 66)))]) (.seq (.ops [(qS 9 (.mv (ic 1)))]) (.block 2 (.loop (.seq (.seq (.ops [(qS 67 (.mv (.tmp 9))), (qS 68 (.mv (.tmp 7))), (qS 69 (.pu (.n (.ar .lss)) [(.tmp 67), (.tmp 68)]))]) (.cond (.tmp 69) .skip (.exit 2))) (.seq (.block 3 (.seq (.ops [(qS 72 (.mv (.tmp 6))), (qS 73 (.mv (.tmp 8))), (qS 74 (.pu (.n (.ar .add)) [(.tmp 72), (.tmp 73)])), (qS 6 (.mv (.tmp 74)))]) (.seq (.seq (.ops [(qS 75 (.mv (.tmp 0))), (qS 76 (.nilChk (.tmp 75))), (qS 77 (.fieldA 2 (.tmp 76))), (qS 78 (.load 1 false (.tmp 77))), (qS 79 (.mv (.tmp 78))), ⟨(.some 80), (.mv (.tmp 6)), (.some (79, false)), [], .none⟩, ⟨(.some 81), (.pu (.n (.ar .lss)) [(.tmp 80), (ic 0)]), (.some (79, false)), [], .none⟩, (qS 82 (.pick (.tmp 79) (.const (.bool true)) (.tmp 81))), (qS 83 (.mv (.tmp 82))), ⟨(.some 84), (.mv (.tmp 6)), (.some (83, false)), [], .none⟩, ⟨(.some 85), (.pu (.n (.ar .gtr)) [(.tmp 84), (ic 1152921504606846975)]), (.some (83, false)), [], .none⟩, (qS 86 (.pick (.tmp 83) (.const (.bool true)) (.tmp 85)))]) (.cond (.tmp 86) (.seq (.ops [(qS 87 (.mv (.tmp 0))), (qS 88 (.nilChk (.tmp 87))), (qS 89 (.fieldA 2 (.tmp 88))), ⟨.none, (.storeV [(0, false)] 1 (.tmp 89) (.const (.bool true))), .none, [], .none⟩]) (.seq (.ops [(qS 2 (.vnil 1 false))]) .ret)) .skip)) (.ops [(qS 90 (.mv (.tmp 5))), (qS 91 (.mv (.tmp 6))), (qS 92 (.buildSl 1 false 1 [(.int .i64 0)] [(0, (.tmp 91))])), (qS 93 (.append 1 false 8 (.tmp 90) (.tmp 92))), (qS 5 (.mv (.tmp 93)))])))) (.ops [(qS 70 (.mv (.tmp 9))), (qS 71 (.pu (.n (.ar .add)) [(.tmp 70), (ic 1)])), (qS 9 (.mv (.tmp 71)))])))))))))))))))) (.seq (.seq (.ops [(qS 94 (.mv (.tmp 5))), (qS 95 (.call (2 * f_impl_appendRuns + 1) [(.const (.slice .none 0 0)), (.tmp 94)])), (qS 96 (.b2s (.tmp 95))), (qS 97 (.mv (.tmp 0))), (qS 98 (.nilChk (.tmp 97))), (qS 99 (.fieldA 0 (.tmp 98))), (qS 100 (.load 1 false (.tmp 99))), (qS 101 (.mv (.tmp 3))), (qS 102 (.mv (.tmp 0))), (qS 103 (.nilChk (.tmp 102))), (qS 104 (.fieldA 1 (.tmp 103))), (qS 105 (.load 1 false (.tmp 104))), (qS 106 (.slice 1 (.tmp 100) (.some (.tmp 101)) (.some (.tmp 105)))), (qS 107 (.b2s (.tmp 106))), (qS 108 (.pu (.n (.ar .neq)) [(.tmp 96), (.tmp 107)]))]) (.cond (.tmp 108) (.seq (.ops [(qS 109 (.mv (.tmp 0))), (qS 110 (.nilChk (.tmp 109))), (qS 111 (.fieldA 2 (.tmp 110))), ⟨.none, (.storeV [(0, false)] 1 (.tmp 111) (.const (.bool true))), .none, [], .none⟩]) (.seq (.ops [(qS 2 (.vnil 1 false))]) .ret)) .skip)) (.seq (.ops [(qS 112 (.mv (.tmp 5))), (qS 2 (.mv (.tmp 112)))]) .ret)))))))), [(.tmp 2)]⟩

theorem RunR.nil {hh h : Heap} {pb B : Nat} {r : TReader} {s : List Int} (q : RunR hh h pb B r s) : RunR hh (h ++ [Slot.virt]) pb h.length r [] :=
  ⟨gc_app q.rd, by rw [List.length_nil, gc_right0]; rfl, q.lt, by have := q.kp.len; exact this, keep_app q.kp⟩
theorem RunR.badNil {hh h : Heap} {pb B : Nat} {r : TReader} {s : List Int} (q : RunR hh h pb B r s) : RunR hh (h.set pb (.cells (rdC (badR r))) ++ [Slot.virt]) pb h.length (badR r) [] := by
  have := q.bad.nil
  rwa [List.length_set] at this
set_option maxHeartbeats 4000000 in
theorem impl_inner {t : Nat → V} {P : Program} {env : Env} {Q : Post} {hh h : Heap} {pb B : Nat} {r : TReader} {s : List Int} {v k d n st j : Int} {e : Ex (List Int × Int × Int) (T2 (List Int) TReader)} (q : RunR hh h pb B r s) (hp : loopP (p_impl_reader_runs_l2 r d k) (s, v, j) = some e)
    (g0 : t 0 = .ptr pb 3 0) (g3 : t 3 = .i (.s (.int .i64 st))) (g4 : t 4 = .i (.s (.int .i64 n))) (g5 : t 5 = .hsl B s.length 0 1 false s.length) (g6 : t 6 = .i (.s (.int .i64 v))) (g7 : t 7 = .i (.s (.int .i64 k))) (g8 : t 8 = .i (.s (.int .i64 d))) (g9 : t 9 = .i (.s (.int .i64 j)))
    (hQ : ∀ s' v' j' t' h', e = .out (s', v', j') → t' 0 = .ptr pb 3 0 → t' 3 = .i (.s (.int .i64 st)) → t' 4 = .i (.s (.int .i64 n)) → t' 5 = .hsl B s'.length 0 1 false s'.length → RunR hh h' pb B r s' → Q (.exit 2) t' h')
    (hR : ∀ x t' h' B', e = .ret x → x.a = [] → t' 2 = .hsl B' 0 0 1 false 0 → RunR hh h' pb B' x.b [] → Q .ret t' h') :
    @W P env ⟨(.loop (.seq (.seq (.ops [(qS 67 (.mv (.tmp 9))), (qS 68 (.mv (.tmp 7))), (qS 69 (.pu (.n (.ar .lss)) [(.tmp 67), (.tmp 68)]))]) (.cond (.tmp 69) .skip (.exit 2))) (.seq (.block 3 (.seq (.ops [(qS 72 (.mv (.tmp 6))), (qS 73 (.mv (.tmp 8))), (qS 74 (.pu (.n (.ar .add)) [(.tmp 72), (.tmp 73)])), (qS 6 (.mv (.tmp 74)))]) (.seq (.seq (.ops [(qS 75 (.mv (.tmp 0))), (qS 76 (.nilChk (.tmp 75))), (qS 77 (.fieldA 2 (.tmp 76))), (qS 78 (.load 1 false (.tmp 77))), (qS 79 (.mv (.tmp 78))), ⟨(.some 80), (.mv (.tmp 6)), (.some (79, false)), [], .none⟩, ⟨(.some 81), (.pu (.n (.ar .lss)) [(.tmp 80), (ic 0)]), (.some (79, false)), [], .none⟩, (qS 82 (.pick (.tmp 79) (.const (.bool true)) (.tmp 81))), (qS 83 (.mv (.tmp 82))), ⟨(.some 84), (.mv (.tmp 6)), (.some (83, false)), [], .none⟩, ⟨(.some 85), (.pu (.n (.ar .gtr)) [(.tmp 84), (ic 1152921504606846975)]), (.some (83, false)), [], .none⟩, (qS 86 (.pick (.tmp 83) (.const (.bool true)) (.tmp 85)))]) (.cond (.tmp 86) (.seq (.ops [(qS 87 (.mv (.tmp 0))), (qS 88 (.nilChk (.tmp 87))), (qS 89 (.fieldA 2 (.tmp 88))), ⟨.none, (.storeV [(0, false)] 1 (.tmp 89) (.const (.bool true))), .none, [], .none⟩]) (.seq (.ops [(qS 2 (.vnil 1 false))]) .ret)) .skip)) (.ops [(qS 90 (.mv (.tmp 5))), (qS 91 (.mv (.tmp 6))), (qS 92 (.buildSl 1 false 1 [(.int .i64 0)] [(0, (.tmp 91))])), (qS 93 (.append 1 false 8 (.tmp 90) (.tmp 92))), (qS 5 (.mv (.tmp 93)))])))) (.ops [(qS 70 (.mv (.tmp 9))), (qS 71 (.pu (.n (.ar .add)) [(.tmp 70), (ic 1)])), (qS 9 (.mv (.tmp 71)))]))))⟩ t h ⟨Q⟩ := by
  refine W_loopP 2 (fun (x : List Int × Int × Int) t h => t 0 = .ptr pb 3 0 ∧ t 3 = .i (.s (.int .i64 st)) ∧ t 4 = .i (.s (.int .i64 n)) ∧ t 5 = .hsl B x.1.length 0 1 false x.1.length ∧ t 6 = .i (.s (.int .i64 x.2.1)) ∧ t 7 = .i (.s (.int .i64 k)) ∧ t 8 = .i (.s (.int .i64 d)) ∧ t 9 = .i (.s (.int .i64 x.2.2)) ∧ RunR hh h pb B r x.1)
    (fun x t h => ∃ B', x.a = [] ∧ t 2 = .hsl B' 0 0 1 false 0 ∧ RunR hh h pb B' x.b []) ?_ hp ⟨g0, g3, g4, g5, g6, g7, g8, g9, q⟩ ?_
  · clear g0 g3 g4 g5 g6 g7 g8 g9 q hp hQ hR
    rintro ⟨s, v, j⟩ ee t h ⟨g0, g3, g4, g5, g6, g7, g8, g9, q⟩ hp
    simp only at g5 g6 g9 q
    simp only [p_impl_reader_runs_l2] at hp
    have rT := q.rd
    by_cases h1 : j < k
    · rw [if_pos h1] at hp
      by_cases h2 : r.bad = true
      · rw [if_pos (.inl h2)] at hp
        cases hp
        simp (maxSteps := 2000000) (disch := omega) only [gw, Nat.reduceAdd, Nat.reduceMul, g0, g3, g4, g5, g6, g7, g8, g9, h1, rT, h2]
        exact ⟨_, rfl, q.badNil⟩
      have h2' := eq_false_of_ne_true h2
      by_cases h3 : w64 (v + d) < 0
      · rw [if_pos (.inr (.inl h3))] at hp
        cases hp
        simp (maxSteps := 2000000) (disch := omega) only [gw, Nat.reduceAdd, Nat.reduceMul, g0, g3, g4, g5, g6, g7, g8, g9, h1, rT, h2', h3]
        exact ⟨_, rfl, q.badNil⟩
      by_cases h4 : 1152921504606846975 < w64 (v + d)
      · rw [if_pos (.inr (.inr h4))] at hp
        cases hp
        simp (maxSteps := 2000000) (disch := omega) only [gw, Nat.reduceAdd, Nat.reduceMul, g0, g3, g4, g5, g6, g7, g8, g9, h1, rT, h2', h3, h4]
        exact ⟨_, rfl, q.badNil⟩
      rw [if_neg (by rintro (h | h | h) <;> first | exact h2 h | exact h3 h | exact h4 h)] at hp
      split at hp
      case isFalse => cases hp
      rename_i hsl
      cases hp
      obtain ⟨h', p1, q'⟩ := q.push (w64 (v + d)) hsl
      simp (maxSteps := 2000000) (disch := omega) only [gw, Nat.reduceAdd, Nat.reduceMul, g0, g3, g4, g5, g6, g7, g8, g9, h1, rT, h2', h3, h4, p1]
      exact q'
    · rw [if_neg h1] at hp
      cases hp
      simp (maxSteps := 2000000) (disch := omega) only [gw, Nat.reduceAdd, Nat.reduceMul, g0, g3, g4, g5, g6, g7, g8, g9, h1]
      exact q
  · intro x t' h' hx
    cases e with
    | out y =>
      obtain ⟨s', v', j'⟩ := y
      obtain ⟨rfl, g0, g3, g4, g5, g6, g7, g8, g9, q⟩ := hx
      exact hQ s' v' j' t' h' rfl g0 g3 g4 g5 q
    | ret y =>
      obtain ⟨rfl, B', ga, g2, q⟩ := hx
      exact hR y t' h' B' rfl ga g2 q
set_option maxHeartbeats 10000000 in
theorem impl_outer {t : Nat → V} {P : Program} {env : Env} {Q : Post} {hh h : Heap} {pb B : Nat} {r : TReader} {s : List Int} {n st : Int} {f_impl_reader_num f_impl_zag : Nat} {e : Ex (List Int × TReader) (T2 (List Int) TReader)} (e_num : k_impl_reader_num (env (2 * f_impl_reader_num + 1))) (ep_zag : env (2 * f_impl_zag) = pureFn true (FA fun a : Int => p_impl_zag a)) (q : RunR hh h pb B r s) (hp : loopP (p_impl_reader_runs_l0 n) (s, r) = some e)
    (g0 : t 0 = .ptr pb 3 0) (g3 : t 3 = .i (.s (.int .i64 st))) (g4 : t 4 = .i (.s (.int .i64 n))) (g5 : t 5 = .hsl B s.length 0 1 false s.length)
    (hQ : ∀ s' r' t' h', e = .out (s', r') → t' 0 = .ptr pb 3 0 → t' 3 = .i (.s (.int .i64 st)) → t' 5 = .hsl B s'.length 0 1 false s'.length → RunR hh h' pb B r' s' → Q (.exit 0) t' h')
    (hR : ∀ x t' h' B', e = .ret x → x.a = [] → t' 2 = .hsl B' 0 0 1 false 0 → RunR hh h' pb B' x.b [] → Q .ret t' h') :
    @W P env ⟨(.loop (.seq (.seq (.ops [(qS 27 (.mv (.tmp 5))), (qS 28 (.len (.tmp 27))), (qS 29 (.mv (.tmp 4))), (qS 30 (.pu (.n (.ar .lss)) [(.tmp 28), (.tmp 29)]))]) (.cond (.tmp 30) .skip (.exit 0))) (.block 1 (.seq (.ops [(qS 31 (.mv (.tmp 0))), (qS 32 (.call (2 * f_impl_reader_num + 1) [(.tmp 31)])), (qS 6 (.mv (.tmp 32)))]) (.seq (.ops [(qS 33 (.mv (.tmp 0))), (qS 34 (.call (2 * f_impl_reader_num + 1) [(.tmp 33)])), (qS 7 (.mv (.tmp 34)))]) (.seq (.seq (.ops [(qS 35 (.mv (.tmp 0))), (qS 36 (.nilChk (.tmp 35))), (qS 37 (.fieldA 2 (.tmp 36))), (qS 38 (.load 1 false (.tmp 37))), (qS 39 (.mv (.tmp 38))), ⟨(.some 40), (.mv (.tmp 6)), (.some (39, false)), [], .none⟩, ⟨(.some 41), (.pu (.n (.ar .gtr)) [(.tmp 40), (ic 1152921504606846975)]), (.some (39, false)), [], .none⟩, (qS 42 (.pick (.tmp 39) (.const (.bool true)) (.tmp 41))), (qS 43 (.mv (.tmp 42))), ⟨(.some 44), (.mv (.tmp 7)), (.some (43, false)), [], .none⟩, ⟨(.some 45), (.pu (.n (.ar .lss)) [(.tmp 44), (ic 1)]), (.some (43, false)), [], .none⟩, (qS 46 (.pick (.tmp 43) (.const (.bool true)) (.tmp 45))), (qS 47 (.mv (.tmp 46))), ⟨(.some 48), (.mv (.tmp 7)), (.some (47, false)), [], .none⟩, ⟨(.some 49), (.mv (.tmp 4)), (.some (47, false)), [], .none⟩, ⟨(.some 50), (.mv (.tmp 5)), (.some (47, false)), [], .none⟩, ⟨(.some 51), (.len (.tmp 50)), (.some (47, false)), [], .none⟩, ⟨(.some 52), (.pu (.n (.ar .sub)) [(.tmp 49), (.tmp 51)]), (.some (47, false)), [], .none⟩, ⟨(.some 53), (.pu (.n (.ar .gtr)) [(.tmp 48), (.tmp 52)]), (.some (47, false)), [], .none⟩, (qS 54 (.pick (.tmp 47) (.const (.bool true)) (.tmp 53)))]) (.cond (.tmp 54) (.seq (.ops [(qS 55 (.mv (.tmp 0))), (qS 56 (.nilChk (.tmp 55))), (qS 57 (.fieldA 2 (.tmp 56))), ⟨.none, (.storeV [(0, false)] 1 (.tmp 57) (.const (.bool true))), .none, [], .none⟩]) (.seq (.ops [(qS 2 (.vnil 1 false))]) .ret)) .skip)) (.seq (.ops [(qS 58 (.mv (.tmp 5))), (qS 59 (.mv (.tmp 6))), (qS 60 (.buildSl 1 false 1 [(.int .i64 0)] [(0, (.tmp 59))])), (qS 61 (.append 1 false 8 (.tmp 58) (.tmp 60))), (qS 5 (.mv (.tmp 61)))]) (.seq (.seq (.ops [(qS 62 (.mv (.tmp 7))), (qS 63 (.pu (.n (.ar .eql)) [(.tmp 62), (ic 1)]))]) (.cond (.tmp 63) (.exit 1) .skip)) (.seq (.ops [(qS 64 (.mv (.tmp 0))), (qS 65 (.call (2 * f_impl_reader_num + 1) [(.tmp 64)])), (qS 66 (.call (2 * f_impl_zag) [(.tmp 65)])), (qS 8 (.mv (.tmp 66)))]) (.seq (.ops [(qS 9 (.mv (ic 1)))]) (.block 2 (.loop (.seq (.seq (.ops [(qS 67 (.mv (.tmp 9))), (qS 68 (.mv (.tmp 7))), (qS 69 (.pu (.n (.ar .lss)) [(.tmp 67), (.tmp 68)]))]) (.cond (.tmp 69) .skip (.exit 2))) (.seq (.block 3 (.seq (.ops [(qS 72 (.mv (.tmp 6))), (qS 73 (.mv (.tmp 8))), (qS 74 (.pu (.n (.ar .add)) [(.tmp 72), (.tmp 73)])), (qS 6 (.mv (.tmp 74)))]) (.seq (.seq (.ops [(qS 75 (.mv (.tmp 0))), (qS 76 (.nilChk (.tmp 75))), (qS 77 (.fieldA 2 (.tmp 76))), (qS 78 (.load 1 false (.tmp 77))), (qS 79 (.mv (.tmp 78))), ⟨(.some 80), (.mv (.tmp 6)), (.some (79, false)), [], .none⟩, ⟨(.some 81), (.pu (.n (.ar .lss)) [(.tmp 80), (ic 0)]), (.some (79, false)), [], .none⟩, (qS 82 (.pick (.tmp 79) (.const (.bool true)) (.tmp 81))), (qS 83 (.mv (.tmp 82))), ⟨(.some 84), (.mv (.tmp 6)), (.some (83, false)), [], .none⟩, ⟨(.some 85), (.pu (.n (.ar .gtr)) [(.tmp 84), (ic 1152921504606846975)]), (.some (83, false)), [], .none⟩, (qS 86 (.pick (.tmp 83) (.const (.bool true)) (.tmp 85)))]) (.cond (.tmp 86) (.seq (.ops [(qS 87 (.mv (.tmp 0))), (qS 88 (.nilChk (.tmp 87))), (qS 89 (.fieldA 2 (.tmp 88))), ⟨.none, (.storeV [(0, false)] 1 (.tmp 89) (.const (.bool true))), .none, [], .none⟩]) (.seq (.ops [(qS 2 (.vnil 1 false))]) .ret)) .skip)) (.ops [(qS 90 (.mv (.tmp 5))), (qS 91 (.mv (.tmp 6))), (qS 92 (.buildSl 1 false 1 [(.int .i64 0)] [(0, (.tmp 91))])), (qS 93 (.append 1 false 8 (.tmp 90) (.tmp 92))), (qS 5 (.mv (.tmp 93)))])))) (.ops [(qS 70 (.mv (.tmp 9))), (qS 71 (.pu (.n (.ar .add)) [(.tmp 70), (ic 1)])), (qS 9 (.mv (.tmp 71)))])))))))))))))))⟩ t h ⟨Q⟩ := by
  refine W_loopP 0 (fun (x : List Int × TReader) t h => t 0 = .ptr pb 3 0 ∧ t 3 = .i (.s (.int .i64 st)) ∧ t 4 = .i (.s (.int .i64 n)) ∧ t 5 = .hsl B x.1.length 0 1 false x.1.length ∧ RunR hh h pb B x.2 x.1)
    (fun x t h => ∃ B', x.a = [] ∧ t 2 = .hsl B' 0 0 1 false 0 ∧ RunR hh h pb B' x.b []) ?_ hp ⟨g0, g3, g4, g5, q⟩ ?_
  · clear g0 g3 g4 g5 q hp hQ hR
    rintro ⟨s, r⟩ ee t h ⟨g0, g3, g4, g5, q⟩ hp
    simp only at g5 q
    simp only [p_impl_reader_runs_l0] at hp
    have rT := q.rd
    by_cases h1 : (s.length : Int) < n
    · rw [if_pos h1] at hp
      split at hp
      case isFalse => cases hp
      rename_i hn
      obtain ⟨⟨a1, r1⟩, hq1, hp⟩ := Option.bind_eq_some_iff.1 hp
      obtain ⟨⟨a2, r2⟩, hq2, hp⟩ := Option.bind_eq_some_iff.1 hp
      simp only at hq2 hp
      obtain ⟨⟨w1, h1'⟩, e1, k1, rfl, c1⟩ := e_num r ⟨a1, r1⟩ hq1 pb h q.rd
      have q1 := q.num k1 c1
      obtain ⟨⟨w2, h2'⟩, e2, k2, rfl, c2⟩ := e_num r1 ⟨a2, r2⟩ hq2 pb h1' q1.rd
      have q2 := q1.num k2 c2
      have rT2 := q2.rd
      simp only at e1 e2 q1 q2 rT2
      by_cases b2 : r2.bad = true
      · rw [if_pos (.inl b2)] at hp
        cases hp
        simp (maxSteps := 2000000) (disch := omega) only [gw, Nat.reduceAdd, Nat.reduceMul, g0, g3, g4, g5, h1, e1, e2, rT2, b2]
        exact ⟨_, rfl, q2.badNil⟩
      have b2' := eq_false_of_ne_true b2
      by_cases b5 : 1152921504606846975 < a1
      · rw [if_pos (.inr (.inl b5))] at hp
        cases hp
        simp (maxSteps := 2000000) (disch := omega) only [gw, Nat.reduceAdd, Nat.reduceMul, g0, g3, g4, g5, h1, e1, e2, rT2, b2', b5]
        exact ⟨_, rfl, q2.badNil⟩
      by_cases b3 : a2 < 1
      · rw [if_pos (.inr (.inr (.inl b3)))] at hp
        cases hp
        simp (maxSteps := 2000000) (disch := omega) only [gw, Nat.reduceAdd, Nat.reduceMul, g0, g3, g4, g5, h1, e1, e2, rT2, b2', b3, b5]
        exact ⟨_, rfl, q2.badNil⟩
      by_cases b4 : n - s.length < a2
      · rw [if_pos (.inr (.inr (.inr b4)))] at hp
        cases hp
        simp (maxSteps := 2000000) (disch := omega) only [gw, Nat.reduceAdd, Nat.reduceMul, g0, g3, g4, g5, h1, e1, e2, rT2, b2', b3, b4, b5]
        exact ⟨_, rfl, q2.badNil⟩
      rw [if_neg (by rintro (h | h | h | h) <;> first | exact b2 h | exact b3 h | exact b4 h | exact b5 h)] at hp
      obtain ⟨h3', p1, q3⟩ := q2.push a1 (by omega)
      by_cases b6 : a2 = 1
      · rw [if_pos b6] at hp
        have b6' := decide_eq_true b6
        cases hp
        simp (maxSteps := 2000000) (disch := omega) only [gw, Nat.reduceAdd, Nat.reduceMul, g0, g3, g4, g5, h1, e1, e2, rT2, b2', b3, b4, b5, p1, b6']
        exact q3
      · rw [if_neg b6] at hp
        have b6' := decide_eq_false b6
        obtain ⟨⟨a3, r3⟩, hq3, hp⟩ := Option.bind_eq_some_iff.1 hp
        obtain ⟨d, hd, hp⟩ := Option.bind_eq_some_iff.1 hp
        simp only at hp hd
        obtain ⟨e', he, rfl⟩ := Option.map_eq_some_iff.1 hp
        obtain ⟨⟨w3, h4'⟩, e3, k3, rfl, c3⟩ := e_num r2 ⟨a3, r3⟩ hq3 pb h3' q3.rd
        have q4 := q3.num k3 c3
        simp only at e3 q4
        simp (maxSteps := 2000000) (disch := omega) only [gw, Nat.reduceAdd, Nat.reduceMul, g0, g3, g4, g5, h1, e1, e2, rT2, b2', b3, b4, b5, p1, b6', e3, ep_zag, hd]
        refine impl_inner (st := st) (n := n) q4 he g0 g3 g4 (by rw [List.length_append]; rfl) rfl rfl rfl rfl ?_ ?_
        · rintro s' v' k' t' h' rfl g0 g3 g4 g5 q
          simp (maxSteps := 2000000) (disch := omega) only [gw, Nat.reduceAdd, Nat.reduceMul, g0, g3, g4, g5]
          exact ⟨rfl, q⟩
        · rintro x t' h' B' rfl ga g2 q
          simp (maxSteps := 2000000) (disch := omega) only [gw, Nat.reduceAdd, Nat.reduceMul, g2]
          exact ⟨B', ga, rfl, q⟩
    · rw [if_neg h1] at hp
      cases hp
      simp (maxSteps := 2000000) (disch := omega) only [gw, Nat.reduceAdd, Nat.reduceMul, g0, g3, g4, g5, h1]
      exact q
  · intro x t' h' hx
    cases e with
    | out y =>
      obtain ⟨s', r'⟩ := y
      obtain ⟨rfl, g0, g3, g4, g5, q⟩ := hx
      exact hQ s' r' t' h' rfl g0 g3 g5 q
    | ret y =>
      obtain ⟨rfl, B', ga, g2, q⟩ := hx
      exact hR y t' h' B' rfl ga g2 q
end Go.AM

set_option linter.unusedVariables false
set_option linter.unusedSimpArgs false
set_option maxRecDepth 20000
namespace Go.AM
open Pic (enc dec dec_enc dec_sub)
open PicA (encA decA decA_encA decA_sub)
noncomputable def pB_spec_l01Put (rr : Int → Option (List U8)) (x0 : Int) : Option (List U8) :=
  if (decide (x0 < 128)) = true then
    some ([(U8.mk (IntKind.wrap .u8 x0))])
  else
    (rr (w64 (Int.tdiv x0 128))).bind fun v1 =>
    (app? 1 ([(U8.mk (IntKind.wrap .u8 (w64 (128 + (Int.tmod x0 128)))))]) v1).bind fun v2 =>
    some v2
noncomputable def pN_spec_l01Put : Nat → Int → Option (List U8)
  | 0 => fun _ => none
  | n + 1 => pB_spec_l01Put (pN_spec_l01Put n)
noncomputable def p_spec_l01Put (x0 : Int) : Option (List U8) := fixP fun n => pN_spec_l01Put n x0
def c_spec_l01Put (f_spec_l01Put : Nat) : AFn := ⟨17, (.seq (.ops [(qS 2 (.vnil 1 false))]) (.seq (.seq (.ops [(qS 3 (.mv (.tmp 0))), (qS 4 (.pu (.n (.ar .lss)) [(.tmp 3), (ic 128)]))]) (.cond (.tmp 4) (.seq (.ops [(qS 5 (.mv (.tmp 0))), (qS 6 (.pu (.n (.conv .u8)) [(.tmp 5)])), (qS 7 (.buildSl 1 false 1 [(.int .u8 0)] [(0, (.tmp 6))])), (qS 2 (.mv (.tmp 7)))]) .ret) .skip)) (.seq (.ops [(qS 8 (.mv (.tmp 0))), (qS 9 (.pu (.n (.ar .rem)) [(.tmp 8), (ic 128)])), (qS 10 (.pu (.n (.ar .add)) [(ic 128), (.tmp 9)])), (qS 11 (.pu (.n (.conv .u8)) [(.tmp 10)])), (qS 12 (.buildSl 1 false 1 [(.int .u8 0)] [(0, (.tmp 11))])), (qS 13 (.mv (.tmp 0))), (qS 14 (.pu (.n (.ar .quo)) [(.tmp 13), (ic 128)])), (qS 15 (.call (2 * f_spec_l01Put + 1) [(.tmp 14)])), (qS 16 (.append 1 false 1 (.tmp 12) (.tmp 15))), (qS 2 (.mv (.tmp 16)))]) .ret))), [(.tmp 2)]⟩
def o_spec_l01Put (b : List U8) (v : V) (h : Heap) : Prop := ∃ n0 : Nat, v = .hsl n0 b.length 0 1 false b.length ∧ getCells h n0 b.length = some (rows b)
def oo_spec_l01Put (b : List U8) (h : Heap) (v : V) (h2 : Heap) : Prop := Keep [] h h2 ∧ ∃ n0 : Nat, v = .hsl n0 b.length 0 1 false b.length ∧ n0 < h2.length ∧ h.length ≤ n0 ∧ getCells h2 n0 b.length = some (rows b)
def kR_spec_l01Put (rr : Int → Option (List U8)) (F : Fun) : Prop := ∀ (x0 : Int) (b : List U8), rr x0 = some b → ∀ (h : Heap) (args : List V), snapA 9 false h args = some (encA (x0)) → ∃ p, F none args h = some p ∧ oo_spec_l01Put b h p.1 p.2
def k_spec_l01Put (F : Fun) : Prop := kR_spec_l01Put p_spec_l01Put F
set_option maxHeartbeats 10000000 in
theorem w_spec_l01Put {P : Program} {env : Env} {f_spec_l01Put : Nat}  {rr : Int → Option (List U8)} (e_spec_l01Put : kR_spec_l01Put rr (env (2 * f_spec_l01Put + 1))) (x0 : Int) {b : List U8} (hp : pB_spec_l01Put rr x0 = some b) : R P env (c_spec_l01Put f_spec_l01Put) ((encA (x0)).map ofI) [] (o_spec_l01Put b) := by
  refine R_of (by simp [c_spec_l01Put, encA]) ?_
  unfold c_spec_l01Put
  unfold pB_spec_l01Put at hp
  by_cases hb0 : (decide (x0 < 128)) = true
  · rw [if_t hb0] at hp
    have hp := Option.some.inj hp
    subst hp
    simp (maxSteps := 2000000) (disch := first|omega|(simp only[ls];first|done|omega)) only [hb0, gm]
    refine ⟨1, ?_⟩
    simp (maxSteps := 2000000) (disch := first|omega|(simp only[ls];first|done|omega)) only [hb0, o_spec_l01Put, (show ([(U8.mk (IntKind.wrap .u8 x0))]).length = 1 from by first | omega | rfl | (simp; done) | (simp; omega)), gm] <;> omega
  · replace hb0 := eq_false_of_ne_true hb0
    rw [if_f hb0] at hp
    obtain ⟨v1, hv1, hp⟩ := bind_eq hp
    simp (maxSteps := 2000000) (disch := first|omega|(simp only[ls];first|done|omega)) only [hb0, gm]
    refine call_f (fun h => getCells h 0 0 = some [] ∧ 0 < h.length ∧ getCells h 1 1 = some (rows ([(U8.mk (IntKind.wrap .u8 (w64 (128 + (Int.tmod x0 128)))))] : List U8)) ∧ 1 < h.length) (fun h v h2 => oo_spec_l01Put v1 h v h2) ?_ ?_ ?_
    · simp (maxSteps := 2000000) (disch := first|omega|(simp only[ls];first|done|omega)) only [hb0, hv1, gm] <;> omega
    · rintro h ⟨c0_0, c0_1, c0_2, c0_3⟩
      exact e_spec_l01Put _ _ hv1 h _ (by simp (maxSteps := 2000000) (disch := first|omega|(simp only[ls];first|done|omega)) only [hb0, hv1, c0_0, c0_1, c0_2, c0_3, gm])
    · rintro hc0 v hh0 ⟨c0_0, c0_1, c0_2, c0_3⟩ hpost
      obtain ⟨kk0, nb0_0, rfl, lnb0_0, gnb0_0, wnb0_0⟩ := hpost
      have d0_0 : getCells hh0 0 0 = some [] := (keep_get kk0 c0_1 (by first | (simp; done) | (simp; omega))).trans c0_0
      have d0_0l := keep_lt kk0 c0_1
      have d0_1 : getCells hh0 1 1 = some (rows ([(U8.mk (IntKind.wrap .u8 (w64 (128 + (Int.tmod x0 128)))))] : List U8)) := (keep_get kk0 c0_3 (by first | (simp; done) | (simp; omega))).trans c0_2
      have d0_1l := keep_lt kk0 c0_3
      have d0_2 := wnb0_0
      obtain ⟨v2, hv2, hp⟩ := bind_eq hp
      simp (maxSteps := 2000000) (disch := first|omega|(simp only[ls];first|done|omega)) only [hb0, hv1, d0_0, d0_1, d0_2, gm]
      refine app_f (b := 1) (xs := ([(U8.mk (IntKind.wrap .u8 (w64 (128 + (Int.tmod x0 128)))))])) (ys := v1) (fun h => getCells h 0 0 = some [] ∧ 0 < h.length ∧ getCells h 1 1 = some (rows ([(U8.mk (IntKind.wrap .u8 (w64 (128 + (Int.tmod x0 128)))))] : List U8)) ∧ 1 < h.length ∧ getCells h nb0_0 v1.length = some (rows (v1 : List U8)) ∧ nb0_0 < h.length) ?_ ?_ hv2 rfl (by first | rfl | omega | (simp; omega)) (by first | rfl | omega | (simp; omega)) (by first | rfl | omega | (simp; omega)) ?_
      · simp (maxSteps := 2000000) (disch := first|omega|(simp only[ls];first|done|omega)) only [hb0, hv1, d0_0, d0_1, d0_2, hv2, gm] <;> omega
      · rintro h ⟨c1_0, c1_1, c1_2, c1_3, c1_4, c1_5⟩
        exact gc_eq c1_2 (by omega)
      · rintro h hh1 ⟨c1_0, c1_1, c1_2, c1_3, c1_4, c1_5⟩ kk1 w1
        have d1_0 : getCells hh1 0 0 = some [] := (keep_get kk1 c1_1 (by first | (simp; done) | (simp; omega))).trans c1_0
        have d1_0l := keep_lt kk1 c1_1
        have d1_1 : getCells hh1 1 v2.length = some (rows (v2 : List U8)) := by simpa only [Nat.mul_one] using w1
        have d1_1l := keep_lt kk1 c1_3
        have d1_2 : getCells hh1 nb0_0 v1.length = some (rows (v1 : List U8)) := (keep_get kk1 c1_5 (by first | (simp; done) | (simp; omega))).trans c1_4
        have d1_2l := keep_lt kk1 c1_5
        have hp := Option.some.inj hp
        subst hp
        simp (maxSteps := 2000000) (disch := first|omega|(simp only[ls];first|done|omega)) only [hb0, hv1, d0_0, d0_1, d0_2, hv2, d1_0, d1_1, d1_2, gm]
        refine ⟨1, ?_⟩
        simp (maxSteps := 2000000) (disch := first|omega|(simp only[ls];first|done|omega)) only [hb0, hv1, d0_0, d0_1, d0_2, hv2, d1_0, d1_1, d1_2, o_spec_l01Put, gm] <;> omega
theorem ko_spec_l01Put {P : Program} {env : Env} {f_spec_l01Put : Nat}  {rr : Int → Option (List U8)} (e_spec_l01Put : kR_spec_l01Put rr (env (2 * f_spec_l01Put + 1))) : kR_spec_l01Put (pB_spec_l01Put rr) (ownFn P env (c_spec_l01Put f_spec_l01Put)) := by
  intro x0 b hp h args has
  obtain ⟨⟨v, H2⟩, hr, n0, rfl, wn0⟩ := w_spec_l01Put e_spec_l01Put x0 hp
  exact ⟨_, own_call has hr rfl, keep_moved, n0 + h.length, rfl, (moved_lt wn0).2, (moved_lt wn0).1, moved_rows wn0⟩

noncomputable def p_spec_l01Signed (x0 : Int) : Option (List U8) :=
  if (decide (x0 < 0)) = true then
    (p_spec_l01Put (w64 ((w64 ((-2) * x0)) - 1))).bind fun v1 =>
    some v1
  else
    (p_spec_l01Put (w64 (2 * x0))).bind fun v2 =>
    some v2
def c_spec_l01Signed (f_spec_l01Put : Nat) : AFn := ⟨12, (.seq (.ops [(qS 2 (.vnil 1 false))]) (.seq (.seq (.ops [(qS 3 (.mv (.tmp 0))), (qS 4 (.pu (.n (.ar .lss)) [(.tmp 3), (ic 0)]))]) (.cond (.tmp 4) (.seq (.ops [(qS 5 (.mv (.tmp 0))), (qS 6 (.pu (.n (.ar .mul)) [(ic (-2)), (.tmp 5)])), (qS 7 (.pu (.n (.ar .sub)) [(.tmp 6), (ic 1)])), (qS 8 (.call (2 * f_spec_l01Put + 1) [(.tmp 7)])), (qS 2 (.mv (.tmp 8)))]) .ret) .skip)) (.seq (.ops [(qS 9 (.mv (.tmp 0))), (qS 10 (.pu (.n (.ar .mul)) [(ic 2), (.tmp 9)])), (qS 11 (.call (2 * f_spec_l01Put + 1) [(.tmp 10)])), (qS 2 (.mv (.tmp 11)))]) .ret))), [(.tmp 2)]⟩
set_option maxHeartbeats 10000000 in
theorem d_spec_l01Signed {P : Program} {env : Env} {f_spec_l01Put : Nat}  (e_spec_l01Put : k_spec_l01Put (env (2 * f_spec_l01Put + 1))) (x0 : Int) {b : List U8} (hp : p_spec_l01Signed x0 = some b) : R P env (c_spec_l01Signed f_spec_l01Put) ((encA (x0)).map ofI) [] (Tells true b) := by
  refine R_of (by simp [c_spec_l01Signed, encA]) ?_
  unfold c_spec_l01Signed
  unfold p_spec_l01Signed at hp
  by_cases hb0 : (decide (x0 < 0)) = true
  · rw [if_t hb0] at hp
    obtain ⟨v1, hv1, hp⟩ := bind_eq hp
    simp (maxSteps := 2000000) (disch := first|omega|(simp only[ls];first|done|omega)) only [hb0, gm]
    refine call_f (fun h => getCells h 0 0 = some [] ∧ 0 < h.length) (fun h v h2 => oo_spec_l01Put v1 h v h2) ?_ ?_ ?_
    · simp (maxSteps := 2000000) (disch := first|omega|(simp only[ls];first|done|omega)) only [hb0, hv1, gm] <;> omega
    · rintro h ⟨c0_0, c0_1⟩
      exact e_spec_l01Put _ _ hv1 h _ (by simp (maxSteps := 2000000) (disch := first|omega|(simp only[ls];first|done|omega)) only [hb0, hv1, c0_0, c0_1, gm])
    · rintro hc0 v hh0 ⟨c0_0, c0_1⟩ hpost
      obtain ⟨kk0, nb0_0, rfl, lnb0_0, gnb0_0, wnb0_0⟩ := hpost
      have d0_0 : getCells hh0 0 0 = some [] := (keep_get kk0 c0_1 (by first | (simp; done) | (simp; omega))).trans c0_0
      have d0_0l := keep_lt kk0 c0_1
      have d0_1 := wnb0_0
      have hp := Option.some.inj hp
      subst hp
      simp (maxSteps := 2000000) (disch := first|omega|(simp only[ls];first|done|omega)) only [hb0, hv1, d0_0, d0_1, gm]
  · replace hb0 := eq_false_of_ne_true hb0
    rw [if_f hb0] at hp
    obtain ⟨v2, hv2, hp⟩ := bind_eq hp
    simp (maxSteps := 2000000) (disch := first|omega|(simp only[ls];first|done|omega)) only [hb0, gm]
    refine call_f (fun h => getCells h 0 0 = some [] ∧ 0 < h.length) (fun h v h2 => oo_spec_l01Put v2 h v h2) ?_ ?_ ?_
    · simp (maxSteps := 2000000) (disch := first|omega|(simp only[ls];first|done|omega)) only [hb0, hv2, gm] <;> omega
    · rintro h ⟨c1_0, c1_1⟩
      exact e_spec_l01Put _ _ hv2 h _ (by simp (maxSteps := 2000000) (disch := first|omega|(simp only[ls];first|done|omega)) only [hb0, hv2, c1_0, c1_1, gm])
    · rintro hc1 v hh1 ⟨c1_0, c1_1⟩ hpost
      obtain ⟨kk1, nb1_0, rfl, lnb1_0, gnb1_0, wnb1_0⟩ := hpost
      have d1_0 : getCells hh1 0 0 = some [] := (keep_get kk1 c1_1 (by first | (simp; done) | (simp; omega))).trans c1_0
      have d1_0l := keep_lt kk1 c1_1
      have d1_1 := wnb1_0
      have hp := Option.some.inj hp
      subst hp
      simp (maxSteps := 2000000) (disch := first|omega|(simp only[ls];first|done|omega)) only [hb0, hv2, d1_0, d1_1, gm]

noncomputable def p_spec_l01PutRuns_l1 (x0 : List Int) (s2 : Int) : Int → Option (Lp (Int) (List U8))
  | s4 =>
    if (decide (s4 < (x0.length : Int))) = true then
      if (decide (s4 = w64 (s2 + 1))) = true then
        some (.go (w64 (s4 + 1)))
      else
        (get? x0 s4).bind fun v7 =>
        (get? x0 (w64 (s4 - 1))).bind fun v8 =>
        (get? x0 (w64 (s2 + 1))).bind fun v9 =>
        (get? x0 s2).bind fun v10 =>
        if (decide (w64 (v7 - v8) = w64 (v9 - v10))) = true then
          some (.go (w64 (s4 + 1)))
        else
          some (.out s4)
    else
      some (.out s4)
noncomputable def p_spec_l01PutRuns_l2 (x0 : List Int) : List U8 × Int → Option (Lp (List U8 × Int) (List U8))
  | (s1, s2) =>
    if (decide (s2 < (x0.length : Int))) = true then
      (loopP (p_spec_l01PutRuns_l1 x0 s2) (w64 (s2 + 1))).bind fun ee1 => match ee1 with
      | .ret r => some (.ret r)
      | .out o12 =>
        (get? x0 s2).bind fun v13 =>
        (p_spec_l01Put v13).bind fun v14 =>
        (app? 1 s1 v14).bind fun v15 =>
        (p_spec_l01Put (w64 (o12 - s2))).bind fun v16 =>
        (app? 1 v15 v16).bind fun v17 =>
        if (decide (1 < w64 (o12 - s2))) = true then
          (get? x0 (w64 (s2 + 1))).bind fun v19 =>
          (p_spec_l01Signed (w64 (v19 - v13))).bind fun v20 =>
          (app? 1 v17 v20).bind fun v21 =>
          some (.go (v21, o12))
        else
          some (.go (v17, o12))
    else
      some (.out (s1, s2))
noncomputable def p_spec_l01PutRuns (x0 : List Int) : Option (List U8) :=
  (p_spec_l01Put (x0.length : Int)).bind fun v0 =>
  (loopP (p_spec_l01PutRuns_l2 x0) (v0, 0)).bind fun ee2 => match ee2 with
  | .ret r => some r
  | .out (o22, o23) =>
    some o22
def c_spec_l01PutRuns (f_spec_l01Put : Nat) (f_spec_l01Signed : Nat) : AFn := ⟨82, (.seq (.ops [(qS 2 (.vnil 1 false))]) (.seq (.ops [(qS 6 (.mv (.tmp 0))), (qS 7 (.len (.tmp 6))), (qS 8 (.call (2 * f_spec_l01Put + 1) [(.tmp 7)])), (qS 3 (.mv (.tmp 8)))]) (.seq (.seq (.ops [(qS 4 (.mv (ic 0)))]) (.block 0 (.loop (.seq (.seq (.ops [(qS 9 (.mv (.tmp 4))), (qS 10 (.mv (.tmp 0))), (qS 11 (.len (.tmp 10))), (qS 12 (.pu (.n (.ar .lss)) [(.tmp 9), (.tmp 11)]))]) (.cond (.tmp 12) .skip (.exit 0))) (.block 1 (.seq (.ops [(qS 13 (.mv (.tmp 4))), (qS 14 (.pu (.n (.ar .add)) [(.tmp 13), (ic 1)])), (qS 5 (.mv (.tmp 14)))]) (.seq (.block 2 (.loop (.seq (.seq (.ops [(qS 15 (.mv (.tmp 5))), (qS 16 (.mv (.tmp 0))), (qS 17 (.len (.tmp 16))), (qS 18 (.pu (.n (.ar .lss)) [(.tmp 15), (.tmp 17)])), (qS 19 (.mv (.tmp 18))), ⟨(.some 20), (.mv (.tmp 5)), (.some (19, true)), [], .none⟩, ⟨(.some 21), (.mv (.tmp 4)), (.some (19, true)), [], .none⟩, ⟨(.some 22), (.pu (.n (.ar .add)) [(.tmp 21), (ic 1)]), (.some (19, true)), [], .none⟩, ⟨(.some 23), (.pu (.n (.ar .eql)) [(.tmp 20), (.tmp 22)]), (.some (19, true)), [], .none⟩, ⟨(.some 24), (.mv (.tmp 23)), (.some (19, true)), [], .none⟩, ⟨(.some 25), (.mv (.tmp 0)), (.some (24, false)), [], .none⟩, ⟨(.some 26), (.mv (.tmp 5)), (.some (24, false)), [], .none⟩, ⟨(.some 27), (.idxS 1 (.tmp 25) (.tmp 26)), (.some (24, false)), [], .none⟩, ⟨(.some 28), (.load 1 false (.tmp 27)), (.some (24, false)), [], .none⟩, ⟨(.some 29), (.mv (.tmp 0)), (.some (24, false)), [], .none⟩, ⟨(.some 30), (.mv (.tmp 5)), (.some (24, false)), [], .none⟩, ⟨(.some 31), (.pu (.n (.ar .sub)) [(.tmp 30), (ic 1)]), (.some (24, false)), [], .none⟩, ⟨(.some 32), (.idxS 1 (.tmp 29) (.tmp 31)), (.some (24, false)), [], .none⟩, ⟨(.some 33), (.load 1 false (.tmp 32)), (.some (24, false)), [], .none⟩, ⟨(.some 34), (.pu (.n (.ar .sub)) [(.tmp 28), (.tmp 33)]), (.some (24, false)), [], .none⟩, ⟨(.some 35), (.mv (.tmp 0)), (.some (24, false)), [], .none⟩, ⟨(.some 36), (.mv (.tmp 4)), (.some (24, false)), [], .none⟩, ⟨(.some 37), (.pu (.n (.ar .add)) [(.tmp 36), (ic 1)]), (.some (24, false)), [], .none⟩, ⟨(.some 38), (.idxS 1 (.tmp 35) (.tmp 37)), (.some (24, false)), [], .none⟩, ⟨(.some 39), (.load 1 false (.tmp 38)), (.some (24, false)), [], .none⟩, ⟨(.some 40), (.mv (.tmp 0)), (.some (24, false)), [], .none⟩, ⟨(.some 41), (.mv (.tmp 4)), (.some (24, false)), [], .none⟩, ⟨(.some 42), (.idxS 1 (.tmp 40) (.tmp 41)), (.some (24, false)), [], .none⟩, ⟨(.some 43), (.load 1 false (.tmp 42)), (.some (24, false)), [], .none⟩, ⟨(.some 44), (.pu (.n (.ar .sub)) [(.tmp 39), (.tmp 43)]), (.some (24, false)), [], .none⟩, ⟨(.some 45), (.pu (.n (.ar .eql)) [(.tmp 34), (.tmp 44)]), (.some (24, false)), [], .none⟩, ⟨(.some 46), (.pick (.tmp 24) (.const (.bool true)) (.tmp 45)), (.some (19, true)), [], .none⟩, (qS 47 (.pick (.tmp 19) (.tmp 46) (.const (.bool false))))]) (.cond (.tmp 47) .skip (.exit 2))) (.block 3 (.ops [(qS 48 (.mv (.tmp 5))), (qS 49 (.pu (.n (.ar .add)) [(.tmp 48), (ic 1)])), (qS 5 (.mv (.tmp 49)))]))))) (.seq (.ops [(qS 50 (.mv (.tmp 3))), (qS 51 (.mv (.tmp 0))), (qS 52 (.mv (.tmp 4))), (qS 53 (.idxS 1 (.tmp 51) (.tmp 52))), (qS 54 (.load 1 false (.tmp 53))), (qS 55 (.call (2 * f_spec_l01Put + 1) [(.tmp 54)])), (qS 56 (.append 1 false 1 (.tmp 50) (.tmp 55))), (qS 3 (.mv (.tmp 56)))]) (.seq (.ops [(qS 57 (.mv (.tmp 3))), (qS 58 (.mv (.tmp 5))), (qS 59 (.mv (.tmp 4))), (qS 60 (.pu (.n (.ar .sub)) [(.tmp 58), (.tmp 59)])), (qS 61 (.call (2 * f_spec_l01Put + 1) [(.tmp 60)])), (qS 62 (.append 1 false 1 (.tmp 57) (.tmp 61))), (qS 3 (.mv (.tmp 62)))]) (.seq (.seq (.ops [(qS 63 (.mv (.tmp 5))), (qS 64 (.mv (.tmp 4))), (qS 65 (.pu (.n (.ar .sub)) [(.tmp 63), (.tmp 64)])), (qS 66 (.pu (.n (.ar .gtr)) [(.tmp 65), (ic 1)]))]) (.cond (.tmp 66) (.ops [(qS 67 (.mv (.tmp 3))), (qS 68 (.mv (.tmp 0))), (qS 69 (.mv (.tmp 4))), (qS 70 (.pu (.n (.ar .add)) [(.tmp 69), (ic 1)])), (qS 71 (.idxS 1 (.tmp 68) (.tmp 70))), (qS 72 (.load 1 false (.tmp 71))), (qS 73 (.mv (.tmp 0))), (qS 74 (.mv (.tmp 4))), (qS 75 (.idxS 1 (.tmp 73) (.tmp 74))), (qS 76 (.load 1 false (.tmp 75))), (qS 77 (.pu (.n (.ar .sub)) [(.tmp 72), (.tmp 76)])), (qS 78 (.call (2 * f_spec_l01Signed) [(.tmp 77)])), (qS 79 (.append 1 false 1 (.tmp 67) (.tmp 78))), (qS 3 (.mv (.tmp 79)))]) .skip)) (.ops [(qS 80 (.mv (.tmp 5))), (qS 4 (.mv (.tmp 80)))]))))))))))) (.seq (.ops [(qS 81 (.mv (.tmp 3))), (qS 2 (.mv (.tmp 81)))]) .ret)))), [(.tmp 2)]⟩
def o_spec_l01PutRuns (b : List U8) (v : V) (h : Heap) : Prop := ∃ n0 : Nat, v = .hsl n0 b.length 0 1 false b.length ∧ getCells h n0 b.length = some (rows b)
def oo_spec_l01PutRuns (b : List U8) (h : Heap) (v : V) (h2 : Heap) : Prop := Keep [] h h2 ∧ ∃ n0 : Nat, v = .hsl n0 b.length 0 1 false b.length ∧ n0 < h2.length ∧ h.length ≤ n0 ∧ getCells h2 n0 b.length = some (rows b)
def k_spec_l01PutRuns (F : Fun) : Prop := ∀ (x0 : List Int) (b : List U8), p_spec_l01PutRuns x0 = some b → ∀ (h : Heap) (args : List V), snapA 9 false h args = some (encA (x0)) → ∃ p, F none args h = some p ∧ oo_spec_l01PutRuns b h p.1 p.2
set_option maxHeartbeats 10000000 in
theorem w_spec_l01PutRuns {P : Program} {env : Env} {f_spec_l01Put : Nat} {f_spec_l01Signed : Nat}  (ep_spec_l01Signed : env (2 * f_spec_l01Signed) = pureFn true (FA fun a : Int => p_spec_l01Signed a)) (e_spec_l01Put : k_spec_l01Put (env (2 * f_spec_l01Put + 1))) (x0 : List Int) {b : List U8} (hp : p_spec_l01PutRuns x0 = some b) : R P env (c_spec_l01PutRuns f_spec_l01Put f_spec_l01Signed) ((encA (x0)).map ofI) [] (o_spec_l01PutRuns b) := by
  refine R_of (by simp [c_spec_l01PutRuns, encA]) ?_
  have E := ep_spec_l01Signed
  unfold c_spec_l01PutRuns
  unfold p_spec_l01PutRuns at hp
  obtain ⟨v0, hv0, hp⟩ := bind_eq hp
  simp (maxSteps := 2000000) (disch := first|omega|(simp only[ls];first|done|omega)) only [E, gm]
  refine call_f (fun h => getCells h 0 0 = some [] ∧ 0 < h.length) (fun h v h2 => oo_spec_l01Put v0 h v h2) ?_ ?_ ?_
  · simp (maxSteps := 2000000) (disch := first|omega|(simp only[ls];first|done|omega)) only [E, hv0, gm] <;> omega
  · rintro h ⟨c0_0, c0_1⟩
    exact e_spec_l01Put _ _ hv0 h _ (by simp (maxSteps := 2000000) (disch := first|omega|(simp only[ls];first|done|omega)) only [E, hv0, c0_0, c0_1, gm])
  · rintro hc0 v hh0 ⟨c0_0, c0_1⟩ hpost
    obtain ⟨kk0, nb0_0, rfl, lnb0_0, gnb0_0, wnb0_0⟩ := hpost
    have d0_0 : getCells hh0 0 0 = some [] := (keep_get kk0 c0_1 (by first | (simp; done) | (simp; omega))).trans c0_0
    have d0_0l := keep_lt kk0 c0_1
    have d0_1 := wnb0_0
    obtain ⟨ee2, hee2, hp⟩ := bind_eq hp
    simp (maxSteps := 2000000) (disch := first|omega|(simp only[ls];first|done|omega)) only [E, hv0, d0_0, d0_1, gm]
    refine W_loopP 0 (fun s t h => match s with | (s1, s2) => t 0 = .i (.sl 1 (x0.map enc)) ∧ t 3 = .hsl nb0_0 s1.length 0 1 false s1.length ∧ t 4 = .i (.s (.int .i64 s2)) ∧ getCells h nb0_0 s1.length = some (rows (s1 : List U8)) ∧ nb0_0 < h.length) (RK [.tmp 2] (o_spec_l01PutRuns)) ?_ hee2 ?_ ?_
    · rintro ⟨s1, s2⟩ ee tt1 hh1 ⟨ftt1_0, ftt1_1, ftt1_2, ftt1_3, ftt1_4⟩ hp
      rw [p_spec_l01PutRuns_l2] at hp
      by_cases hb3 : (decide (s2 < (x0.length : Int))) = true
      · rw [if_t hb3] at hp
        obtain ⟨ee1, hee1, hp⟩ := bind_eq hp
        simp (maxSteps := 2000000) (disch := first|omega|(simp only[ls];first|done|omega)) only [E, hv0, d0_0, d0_1, ftt1_0, ftt1_1, ftt1_2, ftt1_3, ftt1_4, hb3, gm]
        refine W_loopP 2 (fun s t h => match s with | s4 => t 0 = .i (.sl 1 (x0.map enc)) ∧ t 3 = .hsl nb0_0 s1.length 0 1 false s1.length ∧ t 4 = .i (.s (.int .i64 s2)) ∧ t 5 = .i (.s (.int .i64 s4)) ∧ getCells h nb0_0 s1.length = some (rows (s1 : List U8)) ∧ nb0_0 < h.length) (RK [.tmp 2] (o_spec_l01PutRuns)) ?_ hee1 ?_ ?_
        · rintro s4 ee tt2 hh2 ⟨ftt2_0, ftt2_1, ftt2_2, ftt2_3, ftt2_4, ftt2_5⟩ hp
          rw [p_spec_l01PutRuns_l1] at hp
          by_cases hb5 : (decide (s4 < (x0.length : Int))) = true
          · rw [if_t hb5] at hp
            by_cases hb6 : (decide (s4 = w64 (s2 + 1))) = true
            · rw [if_t hb6] at hp
              have hp := Option.some.inj hp
              subst hp
              simp (maxSteps := 2000000) (disch := first|omega|(simp only[ls];first|done|omega)) only [E, hv0, d0_0, d0_1, ftt1_0, ftt1_1, ftt1_2, ftt1_3, ftt1_4, hb3, ftt2_0, ftt2_1, ftt2_2, ftt2_3, ftt2_4, ftt2_5, hb5, hb6, gm] <;> omega
            · replace hb6 := eq_false_of_ne_true hb6
              rw [if_f hb6] at hp
              obtain ⟨v7, hv7, hp⟩ := bind_eq hp
              obtain ⟨v8, hv8, hp⟩ := bind_eq hp
              obtain ⟨v9, hv9, hp⟩ := bind_eq hp
              obtain ⟨v10, hv10, hp⟩ := bind_eq hp
              by_cases hb11 : (decide (w64 (v7 - v8) = w64 (v9 - v10))) = true
              · rw [if_t hb11] at hp
                have hp := Option.some.inj hp
                subst hp
                simp (maxSteps := 2000000) (disch := first|omega|(simp only[ls];first|done|omega)) only [E, hv0, d0_0, d0_1, ftt1_0, ftt1_1, ftt1_2, ftt1_3, ftt1_4, hb3, ftt2_0, ftt2_1, ftt2_2, ftt2_3, ftt2_4, ftt2_5, hb5, hb6, hv7, hv8, hv9, hv10, hb11, gm] <;> omega
              · replace hb11 := eq_false_of_ne_true hb11
                rw [if_f hb11] at hp
                have hp := Option.some.inj hp
                subst hp
                simp (maxSteps := 2000000) (disch := first|omega|(simp only[ls];first|done|omega)) only [E, hv0, d0_0, d0_1, ftt1_0, ftt1_1, ftt1_2, ftt1_3, ftt1_4, hb3, ftt2_0, ftt2_1, ftt2_2, ftt2_3, ftt2_4, ftt2_5, hb5, hb6, hv7, hv8, hv9, hv10, hb11, gm] <;> omega
          · replace hb5 := eq_false_of_ne_true hb5
            rw [if_f hb5] at hp
            have hp := Option.some.inj hp
            subst hp
            simp (maxSteps := 2000000) (disch := first|omega|(simp only[ls];first|done|omega)) only [E, hv0, d0_0, d0_1, ftt1_0, ftt1_1, ftt1_2, ftt1_3, ftt1_4, hb3, ftt2_0, ftt2_1, ftt2_2, ftt2_3, ftt2_4, ftt2_5, hb5, gm] <;> omega
        · simp (maxSteps := 2000000) (disch := first|omega|(simp only[ls];first|done|omega)) only [E, hv0, d0_0, d0_1, ftt1_0, ftt1_1, ftt1_2, ftt1_3, ftt1_4, hb3, gm] <;> omega
        · intro x tt3 hh3 hx
          rcases ee1 with o12 | r
          · obtain ⟨rfl, ftt3_0, ftt3_1, ftt3_2, ftt3_3, ftt3_4, ftt3_5⟩ := hx
            dsimp only at hp
            obtain ⟨v13, hv13, hp⟩ := bind_eq hp
            obtain ⟨v14, hv14, hp⟩ := bind_eq hp
            simp (maxSteps := 2000000) (disch := first|omega|(simp only[ls];first|done|omega)) only [E, hv0, d0_0, d0_1, ftt1_0, ftt1_1, ftt1_2, ftt1_3, ftt1_4, hb3, ftt3_0, ftt3_1, ftt3_2, ftt3_3, ftt3_4, ftt3_5, hv13, gm]
            refine call_f (fun h => getCells h nb0_0 s1.length = some (rows (s1 : List U8)) ∧ nb0_0 < h.length) (fun h v h2 => oo_spec_l01Put v14 h v h2) ?_ ?_ ?_
            · simp (maxSteps := 2000000) (disch := first|omega|(simp only[ls];first|done|omega)) only [E, hv0, d0_0, d0_1, ftt1_0, ftt1_1, ftt1_2, ftt1_3, ftt1_4, hb3, ftt3_0, ftt3_1, ftt3_2, ftt3_3, ftt3_4, ftt3_5, hv13, hv14, gm] <;> omega
            · rintro h ⟨c4_0, c4_1⟩
              exact e_spec_l01Put _ _ hv14 h _ (by simp (maxSteps := 2000000) (disch := first|omega|(simp only[ls];first|done|omega)) only [E, hv0, d0_0, d0_1, ftt1_0, ftt1_1, ftt1_2, ftt1_3, ftt1_4, hb3, ftt3_0, ftt3_1, ftt3_2, ftt3_3, ftt3_4, ftt3_5, hv13, hv14, c4_0, c4_1, gm])
            · rintro hc4 v hh4 ⟨c4_0, c4_1⟩ hpost
              obtain ⟨kk4, nb4_0, rfl, lnb4_0, gnb4_0, wnb4_0⟩ := hpost
              have d4_0 : getCells hh4 nb0_0 s1.length = some (rows (s1 : List U8)) := (keep_get kk4 c4_1 (by first | (simp; done) | (simp; omega))).trans c4_0
              have d4_0l := keep_lt kk4 c4_1
              have d4_1 := wnb4_0
              obtain ⟨v15, hv15, hp⟩ := bind_eq hp
              simp (maxSteps := 2000000) (disch := first|omega|(simp only[ls];first|done|omega)) only [E, hv0, d0_0, d0_1, ftt1_0, ftt1_1, ftt1_2, ftt1_3, ftt1_4, hb3, ftt3_0, ftt3_1, ftt3_2, ftt3_3, ftt3_4, ftt3_5, hv13, hv14, d4_0, d4_1, gm]
              refine app_f (b := nb0_0) (xs := s1) (ys := v14) (fun h => getCells h nb0_0 s1.length = some (rows (s1 : List U8)) ∧ nb0_0 < h.length ∧ getCells h nb4_0 v14.length = some (rows (v14 : List U8)) ∧ nb4_0 < h.length) ?_ ?_ hv15 rfl (by first | rfl | omega | (simp; omega)) (by first | rfl | omega | (simp; omega)) (by first | rfl | omega | (simp; omega)) ?_
              · simp (maxSteps := 2000000) (disch := first|omega|(simp only[ls];first|done|omega)) only [E, hv0, d0_0, d0_1, ftt1_0, ftt1_1, ftt1_2, ftt1_3, ftt1_4, hb3, ftt3_0, ftt3_1, ftt3_2, ftt3_3, ftt3_4, ftt3_5, hv13, hv14, d4_0, d4_1, hv15, gm] <;> omega
              · rintro h ⟨c5_0, c5_1, c5_2, c5_3⟩
                exact gc_eq c5_0 (by omega)
              · rintro h hh5 ⟨c5_0, c5_1, c5_2, c5_3⟩ kk5 w5
                have d5_0 : getCells hh5 nb0_0 v15.length = some (rows (v15 : List U8)) := by simpa only [Nat.mul_one] using w5
                have d5_0l := keep_lt kk5 c5_1
                have d5_1 : getCells hh5 nb4_0 v14.length = some (rows (v14 : List U8)) := (keep_get kk5 c5_3 (by first | (simp; done) | (simp; omega))).trans c5_2
                have d5_1l := keep_lt kk5 c5_3
                obtain ⟨v16, hv16, hp⟩ := bind_eq hp
                simp (maxSteps := 2000000) (disch := first|omega|(simp only[ls];first|done|omega)) only [E, hv0, d0_0, d0_1, ftt1_0, ftt1_1, ftt1_2, ftt1_3, ftt1_4, hb3, ftt3_0, ftt3_1, ftt3_2, ftt3_3, ftt3_4, ftt3_5, hv13, hv14, d4_0, d4_1, hv15, d5_0, d5_1, gm]
                refine call_f (fun h => getCells h nb0_0 v15.length = some (rows (v15 : List U8)) ∧ nb0_0 < h.length ∧ getCells h nb4_0 v14.length = some (rows (v14 : List U8)) ∧ nb4_0 < h.length) (fun h v h2 => oo_spec_l01Put v16 h v h2) ?_ ?_ ?_
                · simp (maxSteps := 2000000) (disch := first|omega|(simp only[ls];first|done|omega)) only [E, hv0, d0_0, d0_1, ftt1_0, ftt1_1, ftt1_2, ftt1_3, ftt1_4, hb3, ftt3_0, ftt3_1, ftt3_2, ftt3_3, ftt3_4, ftt3_5, hv13, hv14, d4_0, d4_1, hv15, d5_0, d5_1, hv16, gm] <;> omega
                · rintro h ⟨c6_0, c6_1, c6_2, c6_3⟩
                  exact e_spec_l01Put _ _ hv16 h _ (by simp (maxSteps := 2000000) (disch := first|omega|(simp only[ls];first|done|omega)) only [E, hv0, d0_0, d0_1, ftt1_0, ftt1_1, ftt1_2, ftt1_3, ftt1_4, hb3, ftt3_0, ftt3_1, ftt3_2, ftt3_3, ftt3_4, ftt3_5, hv13, hv14, d4_0, d4_1, hv15, d5_0, d5_1, hv16, c6_0, c6_1, c6_2, c6_3, gm])
                · rintro hc6 v hh6 ⟨c6_0, c6_1, c6_2, c6_3⟩ hpost
                  obtain ⟨kk6, nb6_0, rfl, lnb6_0, gnb6_0, wnb6_0⟩ := hpost
                  have d6_0 : getCells hh6 nb0_0 v15.length = some (rows (v15 : List U8)) := (keep_get kk6 c6_1 (by first | (simp; done) | (simp; omega))).trans c6_0
                  have d6_0l := keep_lt kk6 c6_1
                  have d6_1 : getCells hh6 nb4_0 v14.length = some (rows (v14 : List U8)) := (keep_get kk6 c6_3 (by first | (simp; done) | (simp; omega))).trans c6_2
                  have d6_1l := keep_lt kk6 c6_3
                  have d6_2 := wnb6_0
                  obtain ⟨v17, hv17, hp⟩ := bind_eq hp
                  simp (maxSteps := 2000000) (disch := first|omega|(simp only[ls];first|done|omega)) only [E, hv0, d0_0, d0_1, ftt1_0, ftt1_1, ftt1_2, ftt1_3, ftt1_4, hb3, ftt3_0, ftt3_1, ftt3_2, ftt3_3, ftt3_4, ftt3_5, hv13, hv14, d4_0, d4_1, hv15, d5_0, d5_1, hv16, d6_0, d6_1, d6_2, gm]
                  refine app_f (b := nb0_0) (xs := v15) (ys := v16) (fun h => getCells h nb0_0 v15.length = some (rows (v15 : List U8)) ∧ nb0_0 < h.length ∧ getCells h nb4_0 v14.length = some (rows (v14 : List U8)) ∧ nb4_0 < h.length ∧ getCells h nb6_0 v16.length = some (rows (v16 : List U8)) ∧ nb6_0 < h.length) ?_ ?_ hv17 rfl (by first | rfl | omega | (simp; omega)) (by first | rfl | omega | (simp; omega)) (by first | rfl | omega | (simp; omega)) ?_
                  · simp (maxSteps := 2000000) (disch := first|omega|(simp only[ls];first|done|omega)) only [E, hv0, d0_0, d0_1, ftt1_0, ftt1_1, ftt1_2, ftt1_3, ftt1_4, hb3, ftt3_0, ftt3_1, ftt3_2, ftt3_3, ftt3_4, ftt3_5, hv13, hv14, d4_0, d4_1, hv15, d5_0, d5_1, hv16, d6_0, d6_1, d6_2, hv17, gm] <;> omega
                  · rintro h ⟨c7_0, c7_1, c7_2, c7_3, c7_4, c7_5⟩
                    exact gc_eq c7_0 (by omega)
                  · rintro h hh7 ⟨c7_0, c7_1, c7_2, c7_3, c7_4, c7_5⟩ kk7 w7
                    have d7_0 : getCells hh7 nb0_0 v17.length = some (rows (v17 : List U8)) := by simpa only [Nat.mul_one] using w7
                    have d7_0l := keep_lt kk7 c7_1
                    have d7_1 : getCells hh7 nb4_0 v14.length = some (rows (v14 : List U8)) := (keep_get kk7 c7_3 (by first | (simp; done) | (simp; omega))).trans c7_2
                    have d7_1l := keep_lt kk7 c7_3
                    have d7_2 : getCells hh7 nb6_0 v16.length = some (rows (v16 : List U8)) := (keep_get kk7 c7_5 (by first | (simp; done) | (simp; omega))).trans c7_4
                    have d7_2l := keep_lt kk7 c7_5
                    by_cases hb18 : (decide (1 < w64 (o12 - s2))) = true
                    · rw [if_t hb18] at hp
                      obtain ⟨v19, hv19, hp⟩ := bind_eq hp
                      obtain ⟨v20, hv20, hp⟩ := bind_eq hp
                      obtain ⟨v21, hv21, hp⟩ := bind_eq hp
                      simp (maxSteps := 2000000) (disch := first|omega|(simp only[ls];first|done|omega)) only [E, hv0, d0_0, d0_1, ftt1_0, ftt1_1, ftt1_2, ftt1_3, ftt1_4, hb3, ftt3_0, ftt3_1, ftt3_2, ftt3_3, ftt3_4, ftt3_5, hv13, hv14, d4_0, d4_1, hv15, d5_0, d5_1, hv16, d6_0, d6_1, d6_2, hv17, d7_0, d7_1, d7_2, hb18, hv19, hv20, gm]
                      refine app_f (b := nb0_0) (xs := v17) (ys := v20) (fun h => getCells h nb0_0 v17.length = some (rows (v17 : List U8)) ∧ nb0_0 < h.length ∧ getCells h nb4_0 v14.length = some (rows (v14 : List U8)) ∧ nb4_0 < h.length ∧ getCells h nb6_0 v16.length = some (rows (v16 : List U8)) ∧ nb6_0 < h.length) ?_ ?_ hv21 rfl (by first | rfl | omega | (simp; omega)) (by first | rfl | omega | (simp; omega)) (by first | rfl | omega | (simp; omega)) ?_
                      · simp (maxSteps := 2000000) (disch := first|omega|(simp only[ls];first|done|omega)) only [E, hv0, d0_0, d0_1, ftt1_0, ftt1_1, ftt1_2, ftt1_3, ftt1_4, hb3, ftt3_0, ftt3_1, ftt3_2, ftt3_3, ftt3_4, ftt3_5, hv13, hv14, d4_0, d4_1, hv15, d5_0, d5_1, hv16, d6_0, d6_1, d6_2, hv17, d7_0, d7_1, d7_2, hb18, hv19, hv20, hv21, gm] <;> omega
                      · rintro h ⟨c8_0, c8_1, c8_2, c8_3, c8_4, c8_5⟩
                        exact gc_eq c8_0 (by omega)
                      · rintro h hh8 ⟨c8_0, c8_1, c8_2, c8_3, c8_4, c8_5⟩ kk8 w8
                        have d8_0 : getCells hh8 nb0_0 v21.length = some (rows (v21 : List U8)) := by simpa only [Nat.mul_one] using w8
                        have d8_0l := keep_lt kk8 c8_1
                        have d8_1 : getCells hh8 nb4_0 v14.length = some (rows (v14 : List U8)) := (keep_get kk8 c8_3 (by first | (simp; done) | (simp; omega))).trans c8_2
                        have d8_1l := keep_lt kk8 c8_3
                        have d8_2 : getCells hh8 nb6_0 v16.length = some (rows (v16 : List U8)) := (keep_get kk8 c8_5 (by first | (simp; done) | (simp; omega))).trans c8_4
                        have d8_2l := keep_lt kk8 c8_5
                        have hp := Option.some.inj hp
                        subst hp
                        simp (maxSteps := 2000000) (disch := first|omega|(simp only[ls];first|done|omega)) only [E, hv0, d0_0, d0_1, ftt1_0, ftt1_1, ftt1_2, ftt1_3, ftt1_4, hb3, ftt3_0, ftt3_1, ftt3_2, ftt3_3, ftt3_4, ftt3_5, hv13, hv14, d4_0, d4_1, hv15, d5_0, d5_1, hv16, d6_0, d6_1, d6_2, hv17, d7_0, d7_1, d7_2, hb18, hv19, hv20, hv21, d8_0, d8_1, d8_2, gm] <;> omega
                    · replace hb18 := eq_false_of_ne_true hb18
                      rw [if_f hb18] at hp
                      have hp := Option.some.inj hp
                      subst hp
                      simp (maxSteps := 2000000) (disch := first|omega|(simp only[ls];first|done|omega)) only [E, hv0, d0_0, d0_1, ftt1_0, ftt1_1, ftt1_2, ftt1_3, ftt1_4, hb3, ftt3_0, ftt3_1, ftt3_2, ftt3_3, ftt3_4, ftt3_5, hv13, hv14, d4_0, d4_1, hv15, d5_0, d5_1, hv16, d6_0, d6_1, d6_2, hv17, d7_0, d7_1, d7_2, hb18, gm] <;> omega
          · obtain ⟨rfl, hx⟩ := hx
            dsimp only at hp
            cases hp
            simp only [seqK_ret, blockK_ret, retK_RK (K := o_spec_l01PutRuns), hx, and_self, true_and]
      · replace hb3 := eq_false_of_ne_true hb3
        rw [if_f hb3] at hp
        have hp := Option.some.inj hp
        subst hp
        simp (maxSteps := 2000000) (disch := first|omega|(simp only[ls];first|done|omega)) only [E, hv0, d0_0, d0_1, ftt1_0, ftt1_1, ftt1_2, ftt1_3, ftt1_4, hb3, gm] <;> omega
    · simp (maxSteps := 2000000) (disch := first|omega|(simp only[ls];first|done|omega)) only [E, hv0, d0_0, d0_1, gm] <;> omega
    · intro x tt9 hh9 hx
      rcases ee2 with ⟨o22, o23⟩ | r
      · obtain ⟨rfl, ftt9_0, ftt9_1, ftt9_2, ftt9_3, ftt9_4⟩ := hx
        dsimp only at hp
        have hp := Option.some.inj hp
        subst hp
        simp (maxSteps := 2000000) (disch := first|omega|(simp only[ls];first|done|omega)) only [E, hv0, d0_0, d0_1, ftt9_0, ftt9_1, ftt9_2, ftt9_3, ftt9_4, gm]
        refine ⟨nb0_0, ?_⟩
        simp (maxSteps := 2000000) (disch := first|omega|(simp only[ls];first|done|omega)) only [E, hv0, d0_0, d0_1, ftt9_0, ftt9_1, ftt9_2, ftt9_3, ftt9_4, o_spec_l01PutRuns, gm] <;> omega
      · obtain ⟨rfl, hx⟩ := hx
        dsimp only at hp
        cases hp
        simp only [seqK_ret, blockK_ret, retK_RK (K := o_spec_l01PutRuns), hx, and_self, true_and]
theorem ko_spec_l01PutRuns {P : Program} {env : Env} {f_spec_l01Put : Nat} {f_spec_l01Signed : Nat}  (ep_spec_l01Signed : env (2 * f_spec_l01Signed) = pureFn true (FA fun a : Int => p_spec_l01Signed a)) (e_spec_l01Put : k_spec_l01Put (env (2 * f_spec_l01Put + 1))) : k_spec_l01PutRuns (ownFn P env (c_spec_l01PutRuns f_spec_l01Put f_spec_l01Signed)) := by
  intro x0 b hp h args has
  obtain ⟨⟨v, H2⟩, hr, n0, rfl, wn0⟩ := w_spec_l01PutRuns ep_spec_l01Signed e_spec_l01Put x0 hp
  exact ⟨_, own_call has hr rfl, keep_moved, n0 + h.length, rfl, (moved_lt wn0).2, (moved_lt wn0).1, moved_rows wn0⟩

end Go.AM

set_option linter.unusedVariables false
set_option linter.unusedSimpArgs false
set_option maxRecDepth 20000
namespace Go.AM
open Pic (enc dec dec_enc dec_sub)
open PicA (encA decA decA_encA decA_sub)

theorem snap_ints {n : Nat} {f : Bool} {h : Heap} {B : Nat} {s : List Int} (hO : getCells h B s.length = some (rows s)) : snap (n + 2) f h (.hsl B s.length 0 1 false s.length) = some (.sl 1 (s.map enc)) := by
  rw [snap_hsl]
  by_cases h0 : s.length = 0
  · rw [if_pos h0, List.length_eq_zero_iff.1 h0]; rfl
  · rw [if_neg h0, hO, Option.bind_some, List.drop_zero, Nat.mul_one, take_rows (by rw [rows_len]; simp [z_int]), snapA_rowsF, Option.bind_some, mkRows_eq (α := Int) (z := 1) (ag := false) rfl rfl rfl]
theorem RunR.keep0 {hh h h2 : Heap} {pb B : Nat} {r : TReader} {s : List Int} (q : RunR hh h pb B r s) (k : Keep [] h h2) : RunR hh h2 pb B r s := by
  have lp := gc_lt q.rd
  have lB := gc_lt q.row
  exact ⟨(keep_get k lp (by simp)).trans q.rd, (keep_get k lB (by simp)).trans q.row, q.lt, q.nB, keep_trans q.kp k fun b hb => by cases hb⟩
def k_impl_reader_runs (F : Fun) : Prop := ∀ (x0 : TReader) (b : T2 (List Int) TReader), p_impl_reader_runs x0 = some b → ∀ (pb : Nat) (h : Heap), getCells h pb 3 = some (rdC x0) → ∃ p, F none [.ptr pb 3 0] h = some p ∧ i_runs pb h b p.1 p.2
set_option maxHeartbeats 10000000 in
theorem w_impl_reader_runs {P : Program} {env : Env} {f_impl_reader_num f_impl_zag f_impl_appendRuns : Nat} (ep_zag : env (2 * f_impl_zag) = pureFn true (FA fun a : Int => p_impl_zag a)) (e_num : k_impl_reader_num (env (2 * f_impl_reader_num + 1))) (e_app : k_impl_appendRuns (env (2 * f_impl_appendRuns + 1))) (x0 : TReader) {b : T2 (List Int) TReader} (hp : p_impl_reader_runs x0 = some b) (pb : Nat) (hh : Heap) (pf : getCells hh pb 3 = some (rdC x0)) : R P env (c_impl_reader_runs f_impl_reader_num f_impl_zag f_impl_appendRuns) [.ptr pb 3 0] hh (i_runs pb hh b) := by
  refine R_of (by simp [c_impl_reader_runs]) ?_
  unfold c_impl_reader_runs
  obtain ⟨⟨n, r⟩, hc, hp⟩ := Option.bind_eq_some_iff.1 hp
  simp only at hp
  have lp := gc_lt pf
  have rT0 : ∀ l, getCells (hh ++ l) pb 3 = some (rdC x0) := fun l => gc_app pf
  obtain ⟨⟨w1, h1⟩, e1, k1, rfl, c1⟩ := e_num x0 ⟨n, r⟩ hc pb (hh ++ [Slot.virt]) (gc_app pf)
  simp only at e1 k1 c1
  have l1 := k1.len
  simp only [List.length_append, List.length_cons, List.length_nil] at l1
  have q0 : RunR hh h1 pb hh.length r [] := by
    refine ⟨c1, ?_, lp, Nat.le_refl _, ⟨by omega, fun b hb hn => ?_⟩⟩
    · refine (keep_get k1 (by simp) (by simp; omega)).trans ?_
      rw [List.length_nil, gc_right0]
      rfl
    · rw [k1.at_ b (by simp; omega) hn, List.getElem?_append_left hb]
  have rT := q0.rd
  by_cases hb : r.bad = true
  · rw [if_pos (.inl hb)] at hp
    cases hp
    simp (maxSteps := 2000000) (disch := omega) only [gw, Nat.reduceAdd, Nat.reduceMul, rT0, e1, rT, hb]
    exact ⟨_, rfl, q0.badNil⟩
  have hb' := eq_false_of_ne_true hb
  by_cases hn : 4096 < n
  · rw [if_pos (.inr hn)] at hp
    cases hp
    simp (maxSteps := 2000000) (disch := omega) only [gw, Nat.reduceAdd, Nat.reduceMul, rT0, e1, rT, hb', hn]
    exact ⟨_, rfl, q0.badNil⟩
  rw [if_neg (by rintro (h | h) <;> first | exact hb h | exact hn h)] at hp
  obtain ⟨e, he, hp⟩ := Option.bind_eq_some_iff.1 hp
  simp (maxSteps := 2000000) (disch := omega) only [gw, Nat.reduceAdd, Nat.reduceMul, rT0, e1, rT, hb', hn]
  refine impl_outer (st := x0.at_) e_num ep_zag q0.nil he rfl rfl rfl rfl ?_ ?_
  · rintro s' r' t' h' rfl g0 g3 g5 q
    simp only at hp
    obtain ⟨by_, hb_, hp⟩ := Option.bind_eq_some_iff.1 hp
    obtain ⟨c, hcut, hp⟩ := Option.bind_eq_some_iff.1 hp
    have hsn : snapA 9 false h' [nilL, .hsl h1.length s'.length 0 1 false s'.length] = some [.s (.slice none 0 0), .sl 1 (s'.map enc)] := by
      rw [snapA_cons, snapA_cons, snap_ints q.row, snapA_nil]
      rfl
    obtain ⟨⟨w2, h2⟩, e2, k2, n0, rfl, ln, lh, c2⟩ := e_app s' by_ hb_ h' _ hsn
    simp only at e2 k2 c2 ln
    have q2 := q.keep0 k2
    have rT2 := q2.rd
    have ht : List.take by_.length (rows by_) = rows by_ := List.take_of_length_le (by rw [rows_len]; simp [z_u8])
    by_cases hs : strOfNums (nums by_) = strOfNums (nums c)
    · rw [if_pos hs] at hp
      cases hp
      have hs' := decide_eq_true hs
      simp (maxSteps := 2000000) (disch := omega) only [gw, Nat.reduceAdd, Nat.reduceMul, g0, g3, g5, e2, rT2, c2, ht, bytesOf_rows, nums_len, hcut, hs']
      exact ⟨_, rfl, q2⟩
    · rw [if_neg hs] at hp
      cases hp
      have hs' := decide_eq_false hs
      simp (maxSteps := 2000000) (disch := omega) only [gw, Nat.reduceAdd, Nat.reduceMul, g0, g3, g5, e2, rT2, c2, ht, bytesOf_rows, nums_len, hcut, hs']
      exact ⟨_, rfl, q2.badNil⟩
  · rintro x t' h' B' rfl ga g2 q
    cases hp
    simp (maxSteps := 2000000) (disch := omega) only [gw, Nat.reduceAdd, Nat.reduceMul, g2]
    obtain ⟨xa, xb⟩ := b
    simp only at ga
    subst ga
    exact ⟨B', rfl, q⟩
theorem ko_impl_reader_runs {P : Program} {env : Env} {f_impl_reader_num f_impl_zag f_impl_appendRuns : Nat} (ep_zag : env (2 * f_impl_zag) = pureFn true (FA fun a : Int => p_impl_zag a)) (e_num : k_impl_reader_num (env (2 * f_impl_reader_num + 1))) (e_app : k_impl_appendRuns (env (2 * f_impl_appendRuns + 1))) : k_impl_reader_runs (runIn P env (c_impl_reader_runs f_impl_reader_num f_impl_zag f_impl_appendRuns)) := by
  intro x0 b hp pb h a0
  exact w_impl_reader_runs ep_zag e_num e_app x0 hp pb h a0
end Go.AM

set_option linter.unusedVariables false
set_option linter.unusedSimpArgs false
set_option maxRecDepth 20000
namespace Go.AM
open Pic (enc dec dec_enc dec_sub)
open PicA (encA decA decA_encA decA_sub)

noncomputable def p_impl_GetRuns (x0 : List U8) : Option (T2 (List Int) Int) := if 1048576 < x0.length then some ⟨[], 2⟩ else (p_impl_reader_runs ⟨x0, 0, false⟩).bind fun q => if q.b.bad = true ∨ q.b.at_ ≠ (x0.length : Int) then some ⟨[], 3⟩ else some ⟨q.a, 0⟩
noncomputable def p_spec_GetRuns (x0 : List U8) : Option (T2 (List Int) Int) := if 1048576 < x0.length then some ⟨[], 2⟩ else (p_spec_l01Reader_runs ⟨x0, 0, false⟩).bind fun q => if q.b.bad = true ∨ q.b.at_ ≠ (x0.length : Int) then some ⟨[], 3⟩ else (p_spec_l01PutRuns q.a).bind fun b => if strOfNums (nums b) = strOfNums (nums x0) then some ⟨q.a, 0⟩ else some ⟨[], 3⟩

def c_impl_GetRuns (f_impl_reader_runs : Nat) : AFn := ⟨22, (.seq (.ops [(qS 2 (.vnil 1 false)), (qS 3 (.mv (ic 0)))]) (.seq (.seq (.ops [(qS 6 (.mv (.tmp 0))), (qS 7 (.len (.tmp 6))), (qS 8 (.pu (.n (.ar .gtr)) [(.tmp 7), (ic 1048576)]))]) (.cond (.tmp 8) (.seq (.ops [(qS 2 (.vnil 1 false)), (qS 3 (.mv (ic 2)))]) .ret) .skip)) (.seq (.ops [(qS 9 (.mv (.tmp 0))), (qS 10 (.build [(.slice .none 0 0), (.int .i64 0), (.bool false)] [(0, (1, (.tmp 9)))])), (qS 4 (.allocV [(1, false), (0, false), (0, false)] [(.slice .none 0 0), (.int .i64 0), (.bool false)])), ⟨.none, (.storeV [(1, false), (0, false), (0, false)] 3 (.tmp 4) (.tmp 10)), .none, [], .none⟩]) (.seq (.ops [(qS 11 (.call (2 * f_impl_reader_runs + 1) [(.tmp 4)])), (qS 5 (.mv (.tmp 11)))]) (.seq (.seq (.ops [(qS 12 (.fieldA 2 (.tmp 4))), (qS 13 (.load 1 false (.tmp 12))), (qS 14 (.mv (.tmp 13))), ⟨(.some 15), (.fieldA 1 (.tmp 4)), (.some (14, false)), [], .none⟩, ⟨(.some 16), (.load 1 false (.tmp 15)), (.some (14, false)), [], .none⟩, ⟨(.some 17), (.mv (.tmp 0)), (.some (14, false)), [], .none⟩, ⟨(.some 18), (.len (.tmp 17)), (.some (14, false)), [], .none⟩, ⟨(.some 19), (.pu (.n (.ar .neq)) [(.tmp 16), (.tmp 18)]), (.some (14, false)), [], .none⟩, (qS 20 (.pick (.tmp 14) (.const (.bool true)) (.tmp 19)))]) (.cond (.tmp 20) (.seq (.ops [(qS 2 (.vnil 1 false)), (qS 3 (.mv (ic 3)))]) .ret) .skip)) (.seq (.ops [(qS 21 (.mv (.tmp 5))), (qS 2 (.mv (.tmp 21))), (qS 3 (.mv (ic 0)))]) .ret)))))), [(.tmp 2), (.tmp 3)]⟩
def c_spec_GetRuns (f_spec_l01Reader_runs : Nat) (f_spec_l01PutRuns : Nat) : AFn := ⟨38, (.seq (.ops [(qS 2 (.vnil 1 false)), (qS 3 (.mv (ic 0)))]) (.seq (.seq (.ops [(qS 6 (.mv (.tmp 0))), (qS 7 (.len (.tmp 6))), (qS 8 (.pu (.n (.ar .gtr)) [(.tmp 7), (ic 1048576)]))]) (.cond (.tmp 8) (.seq (.ops [(qS 9 (.buildSl 1 false 0 [(.int .i64 0)] [])), (qS 2 (.mv (.tmp 9))), (qS 3 (.mv (ic 2)))]) .ret) .skip)) (.seq (.ops [(qS 10 (.mv (.tmp 0))), (qS 11 (.build [(.slice .none 0 0), (.int .i64 0), (.bool false)] [(0, (1, (.tmp 10)))])), (qS 12 (.box (.tmp 11))), (qS 4 (.mv (.tmp 12)))]) (.seq (.ops [(qS 13 (.mv (.tmp 4))), (qS 14 (.call (2 * f_spec_l01Reader_runs + 1) [(.tmp 13)])), (qS 5 (.mv (.tmp 14)))]) (.seq (.seq (.ops [(qS 15 (.mv (.tmp 4))), (qS 16 (.nilChk (.tmp 15))), (qS 17 (.fieldA 2 (.tmp 16))), (qS 18 (.load 1 false (.tmp 17))), (qS 19 (.mv (.tmp 18))), ⟨(.some 20), (.mv (.tmp 4)), (.some (19, false)), [], .none⟩, ⟨(.some 21), (.nilChk (.tmp 20)), (.some (19, false)), [], .none⟩, ⟨(.some 22), (.fieldA 1 (.tmp 21)), (.some (19, false)), [], .none⟩, ⟨(.some 23), (.load 1 false (.tmp 22)), (.some (19, false)), [], .none⟩, ⟨(.some 24), (.mv (.tmp 0)), (.some (19, false)), [], .none⟩, ⟨(.some 25), (.len (.tmp 24)), (.some (19, false)), [], .none⟩, ⟨(.some 26), (.pu (.n (.ar .neq)) [(.tmp 23), (.tmp 25)]), (.some (19, false)), [], .none⟩, (qS 27 (.pick (.tmp 19) (.const (.bool true)) (.tmp 26))), (qS 28 (.mv (.tmp 27))), ⟨(.some 29), (.mv (.tmp 5)), (.some (28, false)), [], .none⟩, ⟨(.some 30), (.call (2 * f_spec_l01PutRuns + 1) [(.tmp 29)]), (.some (28, false)), [], .none⟩, ⟨(.some 31), (.b2s (.tmp 30)), (.some (28, false)), [], .none⟩, ⟨(.some 32), (.mv (.tmp 0)), (.some (28, false)), [], .none⟩, ⟨(.some 33), (.b2s (.tmp 32)), (.some (28, false)), [], .none⟩, ⟨(.some 34), (.pu (.n (.ar .neq)) [(.tmp 31), (.tmp 33)]), (.some (28, false)), [], .none⟩, (qS 35 (.pick (.tmp 28) (.const (.bool true)) (.tmp 34)))]) (.cond (.tmp 35) (.seq (.ops [(qS 36 (.buildSl 1 false 0 [(.int .i64 0)] [])), (qS 2 (.mv (.tmp 36))), (qS 3 (.mv (ic 3)))]) .ret) .skip)) (.seq (.ops [(qS 37 (.mv (.tmp 5))), (qS 2 (.mv (.tmp 37))), (qS 3 (.mv (ic 0)))]) .ret)))))), [(.tmp 2), (.tmp 3)]⟩

def o_impl_GetRuns (b : T2 (List Int) Int) (v : V) (h : Heap) : Prop := ∃ n0 : Nat, v = .tup [.hsl n0 b.a.length 0 1 false b.a.length, .i (.s (.int .i64 b.b))] ∧ getCells h n0 b.a.length = some (rows b.a)
def oo_impl_GetRuns (b : T2 (List Int) Int) (h : Heap) (v : V) (h2 : Heap) : Prop := Keep [] h h2 ∧ ∃ n0 : Nat, v = .tup [.hsl n0 b.a.length 0 1 false b.a.length, .i (.s (.int .i64 b.b))] ∧ n0 < h2.length ∧ h.length ≤ n0 ∧ getCells h2 n0 b.a.length = some (rows b.a)
def k_impl_GetRuns (F : Fun) : Prop := ∀ (x0 : List U8) (b : T2 (List Int) Int), p_impl_GetRuns x0 = some b → ∀ (h : Heap) (args : List V), snapA 9 false h args = some (encA (x0)) → ∃ p, F none args h = some p ∧ oo_impl_GetRuns b h p.1 p.2
set_option maxHeartbeats 4000000 in
theorem w_impl_GetRuns {P : Program} {env : Env} {f_impl_reader_runs : Nat} (e_runs : k_impl_reader_runs (env (2 * f_impl_reader_runs + 1))) (x0 : List U8) {b : T2 (List Int) Int} (hp : p_impl_GetRuns x0 = some b) : R P env (c_impl_GetRuns f_impl_reader_runs) ((encA (x0)).map ofI) [] (o_impl_GetRuns b) := by
  refine R_of (by simp [c_impl_GetRuns, encA]) ?_
  unfold c_impl_GetRuns
  unfold p_impl_GetRuns at hp
  by_cases h1 : 1048576 < x0.length
  · rw [if_pos h1] at hp
    cases hp
    have h1' : (1048576 : Int) < (x0.length : Int) := by omega
    simp (maxSteps := 2000000) (disch := omega) only [gw, Nat.reduceAdd, Nat.reduceMul, h1']
    exact ⟨_, rfl, rfl⟩
  · rw [if_neg h1] at hp
    have h1' : ¬ (1048576 : Int) < (x0.length : Int) := by omega
    obtain ⟨⟨l, r⟩, hq, hp⟩ := Option.bind_eq_some_iff.1 hp
    obtain ⟨⟨w, h2⟩, e1, B, rfl, q⟩ := e_runs ⟨x0, 0, false⟩ ⟨l, r⟩ hq 2 [Slot.virt, Slot.virt, Slot.cells [.i (.sl 1 (x0.map enc)), .i (.s (.int .i64 0)), .i (.s (.bool false))]] rfl
    simp only at e1 q hp
    have rT := q.rd
    by_cases hb : r.bad = true
    · rw [if_pos (.inl hb)] at hp
      cases hp
      simp (maxSteps := 2000000) (disch := omega) only [gw, Nat.reduceAdd, Nat.reduceMul, h1', e1, rT, hb]
      exact ⟨_, rfl, by rw [gc_right0]; rfl⟩
    have hb' := eq_false_of_ne_true hb
    by_cases ha : r.at_ = (x0.length : Int)
    · rw [if_neg (by rintro (h | h) <;> first | exact hb h | exact h ha)] at hp
      cases hp
      have ha' := decide_eq_true ha
      simp (maxSteps := 2000000) (disch := omega) only [gw, Nat.reduceAdd, Nat.reduceMul, h1', e1, rT, hb', ha']
      exact ⟨B, rfl, q.row⟩
    · rw [if_pos (.inr ha)] at hp
      cases hp
      have ha' := decide_eq_false ha
      simp (maxSteps := 2000000) (disch := omega) only [gw, Nat.reduceAdd, Nat.reduceMul, h1', e1, rT, hb', ha']
      exact ⟨_, rfl, by rw [gc_right0]; rfl⟩
theorem ko_impl_GetRuns {P : Program} {env : Env} {f_impl_reader_runs : Nat} (e_runs : k_impl_reader_runs (env (2 * f_impl_reader_runs + 1))) : k_impl_GetRuns (ownFn P env (c_impl_GetRuns f_impl_reader_runs)) := by
  intro x0 b hp h args has
  obtain ⟨⟨v, H2⟩, hr, n0, rfl, wn0⟩ := w_impl_GetRuns e_runs x0 hp
  exact ⟨_, own_call has hr rfl, keep_moved, n0 + h.length, rfl, (moved_lt wn0).2, (moved_lt wn0).1, moved_rows wn0⟩
theorem snap_intsF {n : Nat} {f : Bool} {h : Heap} {B : Nat} {s : List Int} (hO : getCells h B s.length = some (rows s)) : (if s.length = 0 then some (I.sl 1 []) else (getCells h B s.length).bind fun cs => (snapA (n + 1) f h (List.take s.length cs)).bind (mkRows 1 false s.length)) = some (.sl 1 (s.map enc)) := by
  have := snap_ints (n := n) (f := f) hO
  rw [snap_hsl] at this
  simp only [List.drop_zero, Nat.mul_one] at this
  exact this
set_option maxHeartbeats 4000000 in
theorem d_spec_GetRuns {P : Program} {env : Env} {f_spec_l01Reader_runs f_spec_l01PutRuns : Nat} (e_runs : k_spec_l01Reader_runs (env (2 * f_spec_l01Reader_runs + 1))) (e_put : k_spec_l01PutRuns (env (2 * f_spec_l01PutRuns + 1))) (x0 : List U8) {b : T2 (List Int) Int} (hp : p_spec_GetRuns x0 = some b) : R P env (c_spec_GetRuns f_spec_l01Reader_runs f_spec_l01PutRuns) ((encA (x0)).map ofI) [] (Tells true b) := by
  refine R_of (by simp [c_spec_GetRuns, encA]) ?_
  unfold c_spec_GetRuns
  unfold p_spec_GetRuns at hp
  by_cases h1 : 1048576 < x0.length
  · rw [if_pos h1] at hp
    cases hp
    have h1' : (1048576 : Int) < (x0.length : Int) := by omega
    simp (maxSteps := 2000000) (disch := omega) only [gw, Nat.reduceAdd, Nat.reduceMul, h1']
  · rw [if_neg h1] at hp
    have h1' : ¬ (1048576 : Int) < (x0.length : Int) := by omega
    obtain ⟨⟨l, r⟩, hq, hp⟩ := Option.bind_eq_some_iff.1 hp
    obtain ⟨⟨w, h2⟩, e1, B, rfl, q⟩ := e_runs ⟨x0, 0, false⟩ ⟨l, r⟩ hq 1 [Slot.virt, Slot.cells [.i (.sl 1 (x0.map enc)), .i (.s (.int .i64 0)), .i (.s (.bool false))]] rfl
    simp only at e1 q hp
    have rT := q.rd
    by_cases hb : r.bad = true
    · rw [if_pos (.inl hb)] at hp
      cases hp
      simp (maxSteps := 2000000) (disch := omega) only [gw, Nat.reduceAdd, Nat.reduceMul, h1', e1, rT, hb]
    have hb' := eq_false_of_ne_true hb
    by_cases ha : r.at_ = (x0.length : Int)
    · rw [if_neg (by rintro (h | h) <;> first | exact hb h | exact h ha)] at hp
      have ha' := decide_eq_true ha
      obtain ⟨by_, hb_, hp⟩ := Option.bind_eq_some_iff.1 hp
      have hsn : snapA 9 false h2 [.hsl B l.length 0 1 false l.length] = some (encA l) := by
        rw [snapA_cons, snap_ints q.row, snapA_nil]
        rfl
      obtain ⟨⟨w2, h3⟩, e2, k2, n0, rfl, ln, lh, c2⟩ := e_put l by_ hb_ h2 _ hsn
      simp only at e2 k2 c2 ln
      have q2 := q.keep0 k2
      have ht : List.take by_.length (rows by_) = rows by_ := List.take_of_length_le (by rw [rows_len]; simp [z_u8])
      by_cases hs : strOfNums (nums by_) = strOfNums (nums x0)
      · rw [if_pos hs] at hp
        cases hp
        have hs' := decide_eq_true hs
        simp (maxSteps := 2000000) (disch := omega) only [gw, Nat.reduceAdd, Nat.reduceMul, h1', e1, rT, hb', ha', e2, c2, ht, bytesOf_rows, nums_len, hs']
        rw [snap_intsF q2.row]
        exact dec_enc (T2.mk l (0 : Int))
      · rw [if_neg hs] at hp
        cases hp
        have hs' := decide_eq_false hs
        simp (maxSteps := 2000000) (disch := omega) only [gw, Nat.reduceAdd, Nat.reduceMul, h1', e1, rT, hb', ha', e2, c2, ht, bytesOf_rows, nums_len, hs']
    · rw [if_pos (.inr ha)] at hp
      cases hp
      have ha' := decide_eq_false ha
      simp (maxSteps := 2000000) (disch := omega) only [gw, Nat.reduceAdd, Nat.reduceMul, h1', e1, rT, hb', ha']
end Go.AM
