/- Several texts of the abstract machine in one. No condition. -/
import Derived.Test.YtogokiglmhnjkaaLabPackD
import Derived.Sort.Walk13a
import Derived.Shelf.GgSortFunc.RowK
import Derived.Sort.OwnSorted
import Derived.Lib.ReflectliteSwap
import Derived.Shelf.GgSortFunc.Slice
import Derived.Shelf.GgSortFunc.Tiny
import Derived.Shelf.GgSortFunc.Small
set_option linter.unusedVariables false
set_option linter.unusedSimpArgs false
set_option maxRecDepth 20000
namespace Go.AM
open Go.Sort
variable {P : Program} {env : Env} {α : Type} [Inhabited α]

def c_sort_pdqsort_func (f_sort_insertionSort_func : Nat) (f_sort_heapSort_func : Nat) (f_sort_breakPatterns_func : Nat) (f_sort_choosePivot_func : Nat) (f_sort_reverseRange_func : Nat) (f_sort_partialInsertionSort_func : Nat) (f_sort_partitionEqual_func : Nat) (f_sort_partition_func : Nat) (f_sort_pdqsort_func : Nat) : AFn := ⟨130, (.seq (.ops [(qS 4 (.box (.tmp 0)))]) (.seq (.ops [(qS 8 (.mv (.const (.bool true))))]) (.seq (.ops [(qS 9 (.mv (.const (.bool true))))]) (.block 0 (.loop (.block 1 (.seq (.ops [(qS 19 (.mv (.tmp 2))), (qS 20 (.mv (.tmp 1))), (qS 21 (.pu (.n (.ar .sub)) [(.tmp 19), (.tmp 20)])), (qS 10 (.mv (.tmp 21)))]) (.seq (.seq (.ops [(qS 22 (.mv (.tmp 10))), (qS 23 (.pu (.n (.ar .leq)) [(.tmp 22), (ic 12)]))]) (.cond (.tmp 23) (.seq (.ops [(qS 24 (.load 2 true (.tmp 4))), (qS 25 (.mv (.tmp 1))), (qS 26 (.mv (.tmp 2))), (qS 27 (.call (2 * f_sort_insertionSort_func + 1) [(.tmp 24), (.tmp 25), (.tmp 26)]))]) .ret) .skip)) (.seq (.seq (.ops [(qS 28 (.mv (.tmp 3))), (qS 29 (.pu (.n (.ar .eql)) [(.tmp 28), (ic 0)]))]) (.cond (.tmp 29) (.seq (.ops [(qS 30 (.load 2 true (.tmp 4))), (qS 31 (.mv (.tmp 1))), (qS 32 (.mv (.tmp 2))), (qS 33 (.call (2 * f_sort_heapSort_func + 1) [(.tmp 30), (.tmp 31), (.tmp 32)]))]) .ret) .skip)) (.seq (.seq (.ops [(qS 34 (.mv (.tmp 8))), (qS 35 (.pu (.n (.un .not)) [(.tmp 34)]))]) (.cond (.tmp 35) (.seq (.ops [(qS 36 (.load 2 true (.tmp 4))), (qS 37 (.mv (.tmp 1))), (qS 38 (.mv (.tmp 2))), (qS 39 (.call (2 * f_sort_breakPatterns_func + 1) [(.tmp 36), (.tmp 37), (.tmp 38)]))]) (.ops [(qS 40 (.mv (.tmp 3))), (qS 41 (.pu (.n (.ar .sub)) [(.tmp 40), (ic 1)])), (qS 3 (.mv (.tmp 41)))])) .skip)) (.seq (.ops [(qS 43 (.load 2 true (.tmp 4))), (qS 44 (.mv (.tmp 1))), (qS 45 (.mv (.tmp 2))), (qS 46 (.call (2 * f_sort_choosePivot_func + 1) [(.tmp 43), (.tmp 44), (.tmp 45)])), (qS 42 (.mv (.tmp 46))), (qS 47 (.extract 0 (.tmp 42))), (qS 48 (.extract 1 (.tmp 42))), (qS 11 (.mv (.tmp 47))), (qS 12 (.mv (.tmp 48)))]) (.seq (.seq (.ops [(qS 49 (.mv (.tmp 12))), (qS 50 (.pu (.n (.ar .eql)) [(.tmp 49), (ic 2)]))]) (.cond (.tmp 50) (.seq (.ops [(qS 51 (.load 2 true (.tmp 4))), (qS 52 (.mv (.tmp 1))), (qS 53 (.mv (.tmp 2))), (qS 54 (.call (2 * f_sort_reverseRange_func + 1) [(.tmp 51), (.tmp 52), (.tmp 53)]))]) (.seq (.ops [(qS 55 (.mv (.tmp 2))), (qS 56 (.pu (.n (.ar .sub)) [(.tmp 55), (ic 1)])), (qS 57 (.mv (.tmp 11))), (qS 58 (.mv (.tmp 1))), (qS 59 (.pu (.n (.ar .sub)) [(.tmp 57), (.tmp 58)])), (qS 60 (.pu (.n (.ar .sub)) [(.tmp 56), (.tmp 59)])), (qS 11 (.mv (.tmp 60)))]) (.ops [(qS 12 (.mv (ic 1)))]))) .skip)) (.seq (.seq (.ops [(qS 61 (.mv (.tmp 8))), (qS 62 (.mv (.tmp 61))), ⟨(.some 63), (.mv (.tmp 9)), (.some (62, true)), [], .none⟩, (qS 64 (.pick (.tmp 62) (.tmp 63) (.const (.bool false)))), (qS 65 (.mv (.tmp 64))), ⟨(.some 66), (.mv (.tmp 12)), (.some (65, true)), [], .none⟩, ⟨(.some 67), (.pu (.n (.ar .eql)) [(.tmp 66), (ic 1)]), (.some (65, true)), [], .none⟩, (qS 68 (.pick (.tmp 65) (.tmp 67) (.const (.bool false))))]) (.cond (.tmp 68) (.seq (.ops [(qS 69 (.load 2 true (.tmp 4))), (qS 70 (.mv (.tmp 1))), (qS 71 (.mv (.tmp 2))), (qS 72 (.call (2 * f_sort_partialInsertionSort_func + 1) [(.tmp 69), (.tmp 70), (.tmp 71)]))]) (.cond (.tmp 72) .ret .skip)) .skip)) (.seq (.seq (.ops [(qS 73 (.mv (.tmp 1))), (qS 74 (.pu (.n (.ar .gtr)) [(.tmp 73), (ic 0)])), (qS 75 (.mv (.tmp 74))), ⟨(.some 76), (.fieldA 0 (.tmp 4)), (.some (75, true)), [], .none⟩, ⟨(.some 77), (.load 1 false (.tmp 76)), (.some (75, true)), [], .none⟩, ⟨(.some 78), (.mv (.tmp 1)), (.some (75, true)), [], .none⟩, ⟨(.some 79), (.pu (.n (.ar .sub)) [(.tmp 78), (ic 1)]), (.some (75, true)), [], .none⟩, ⟨(.some 80), (.mv (.tmp 11)), (.some (75, true)), [], .none⟩, ⟨(.some 81), (.dyn (.tmp 77) [(.tmp 79), (.tmp 80)]), (.some (75, true)), [], .none⟩, ⟨(.some 82), (.pu (.n (.un .not)) [(.tmp 81)]), (.some (75, true)), [], .none⟩, (qS 83 (.pick (.tmp 75) (.tmp 82) (.const (.bool false))))]) (.cond (.tmp 83) (.seq (.ops [(qS 84 (.load 2 true (.tmp 4))), (qS 85 (.mv (.tmp 1))), (qS 86 (.mv (.tmp 2))), (qS 87 (.mv (.tmp 11))), (qS 88 (.call (2 * f_sort_partitionEqual_func + 1) [(.tmp 84), (.tmp 85), (.tmp 86), (.tmp 87)])), (qS 13 (.mv (.tmp 88)))]) (.seq (.ops [(qS 89 (.mv (.tmp 13))), (qS 1 (.mv (.tmp 89)))]) (.exit 1))) .skip)) (.seq (.ops [(qS 91 (.load 2 true (.tmp 4))), (qS 92 (.mv (.tmp 1))), (qS 93 (.mv (.tmp 2))), (qS 94 (.mv (.tmp 11))), (qS 95 (.call (2 * f_sort_partition_func + 1) [(.tmp 91), (.tmp 92), (.tmp 93), (.tmp 94)])), (qS 90 (.mv (.tmp 95))), (qS 96 (.extract 0 (.tmp 90))), (qS 97 (.extract 1 (.tmp 90))), (qS 14 (.mv (.tmp 96))), (qS 15 (.mv (.tmp 97)))]) (.seq (.ops [(qS 98 (.mv (.tmp 15))), (qS 9 (.mv (.tmp 98)))]) (.seq (.ops [(qS 99 (.mv (.tmp 14))), (qS 100 (.mv (.tmp 1))), (qS 101 (.pu (.n (.ar .sub)) [(.tmp 99), (.tmp 100)])), (qS 102 (.mv (.tmp 2))), (qS 103 (.mv (.tmp 14))), (qS 104 (.pu (.n (.ar .sub)) [(.tmp 102), (.tmp 103)])), (qS 16 (.mv (.tmp 101))), (qS 17 (.mv (.tmp 104)))]) (.seq (.ops [(qS 105 (.mv (.tmp 10))), (qS 106 (.pu (.n (.ar .quo)) [(.tmp 105), (ic 8)])), (qS 18 (.mv (.tmp 106)))]) (.seq (.ops [(qS 107 (.mv (.tmp 16))), (qS 108 (.mv (.tmp 17))), (qS 109 (.pu (.n (.ar .lss)) [(.tmp 107), (.tmp 108)]))]) (.cond (.tmp 109) (.seq (.ops [(qS 110 (.mv (.tmp 16))), (qS 111 (.mv (.tmp 18))), (qS 112 (.pu (.n (.ar .geq)) [(.tmp 110), (.tmp 111)])), (qS 8 (.mv (.tmp 112)))]) (.seq (.ops [(qS 113 (.load 2 true (.tmp 4))), (qS 114 (.mv (.tmp 1))), (qS 115 (.mv (.tmp 14))), (qS 116 (.mv (.tmp 3))), (qS 117 (.call (2 * f_sort_pdqsort_func + 1) [(.tmp 113), (.tmp 114), (.tmp 115), (.tmp 116)]))]) (.ops [(qS 118 (.mv (.tmp 14))), (qS 119 (.pu (.n (.ar .add)) [(.tmp 118), (ic 1)])), (qS 1 (.mv (.tmp 119)))]))) (.seq (.ops [(qS 120 (.mv (.tmp 17))), (qS 121 (.mv (.tmp 18))), (qS 122 (.pu (.n (.ar .geq)) [(.tmp 120), (.tmp 121)])), (qS 8 (.mv (.tmp 122)))]) (.seq (.ops [(qS 123 (.load 2 true (.tmp 4))), (qS 124 (.mv (.tmp 14))), (qS 125 (.pu (.n (.ar .add)) [(.tmp 124), (ic 1)])), (qS 126 (.mv (.tmp 2))), (qS 127 (.mv (.tmp 3))), (qS 128 (.call (2 * f_sort_pdqsort_func + 1) [(.tmp 123), (.tmp 125), (.tmp 126), (.tmp 127)]))]) (.ops [(qS 129 (.mv (.tmp 14))), (qS 2 (.mv (.tmp 129)))]))))))))))))))))))))))), []⟩

def k_pdq4 (fI fH fB fC fR fP fE fT fS : Nat) : ACode := (.seq (.seq (.ops [(qS 73 (.mv (.tmp 1))), (qS 74 (.pu (.n (.ar .gtr)) [(.tmp 73), (ic 0)])), (qS 75 (.mv (.tmp 74))), ⟨(.some 76), (.fieldA 0 (.tmp 4)), (.some (75, true)), [], .none⟩, ⟨(.some 77), (.load 1 false (.tmp 76)), (.some (75, true)), [], .none⟩, ⟨(.some 78), (.mv (.tmp 1)), (.some (75, true)), [], .none⟩, ⟨(.some 79), (.pu (.n (.ar .sub)) [(.tmp 78), (ic 1)]), (.some (75, true)), [], .none⟩, ⟨(.some 80), (.mv (.tmp 11)), (.some (75, true)), [], .none⟩, ⟨(.some 81), (.dyn (.tmp 77) [(.tmp 79), (.tmp 80)]), (.some (75, true)), [], .none⟩, ⟨(.some 82), (.pu (.n (.un .not)) [(.tmp 81)]), (.some (75, true)), [], .none⟩, (qS 83 (.pick (.tmp 75) (.tmp 82) (.const (.bool false))))]) (.cond (.tmp 83) (.seq (.ops [(qS 84 (.load 2 true (.tmp 4))), (qS 85 (.mv (.tmp 1))), (qS 86 (.mv (.tmp 2))), (qS 87 (.mv (.tmp 11))), (qS 88 (.call (2 * fE + 1) [(.tmp 84), (.tmp 85), (.tmp 86), (.tmp 87)])), (qS 13 (.mv (.tmp 88)))]) (.seq (.ops [(qS 89 (.mv (.tmp 13))), (qS 1 (.mv (.tmp 89)))]) (.exit 1))) .skip)) (.seq (.ops [(qS 91 (.load 2 true (.tmp 4))), (qS 92 (.mv (.tmp 1))), (qS 93 (.mv (.tmp 2))), (qS 94 (.mv (.tmp 11))), (qS 95 (.call (2 * fT + 1) [(.tmp 91), (.tmp 92), (.tmp 93), (.tmp 94)])), (qS 90 (.mv (.tmp 95))), (qS 96 (.extract 0 (.tmp 90))), (qS 97 (.extract 1 (.tmp 90))), (qS 14 (.mv (.tmp 96))), (qS 15 (.mv (.tmp 97)))]) (.seq (.ops [(qS 98 (.mv (.tmp 15))), (qS 9 (.mv (.tmp 98)))]) (.seq (.ops [(qS 99 (.mv (.tmp 14))), (qS 100 (.mv (.tmp 1))), (qS 101 (.pu (.n (.ar .sub)) [(.tmp 99), (.tmp 100)])), (qS 102 (.mv (.tmp 2))), (qS 103 (.mv (.tmp 14))), (qS 104 (.pu (.n (.ar .sub)) [(.tmp 102), (.tmp 103)])), (qS 16 (.mv (.tmp 101))), (qS 17 (.mv (.tmp 104)))]) (.seq (.ops [(qS 105 (.mv (.tmp 10))), (qS 106 (.pu (.n (.ar .quo)) [(.tmp 105), (ic 8)])), (qS 18 (.mv (.tmp 106)))]) (.seq (.ops [(qS 107 (.mv (.tmp 16))), (qS 108 (.mv (.tmp 17))), (qS 109 (.pu (.n (.ar .lss)) [(.tmp 107), (.tmp 108)]))]) (.cond (.tmp 109) (.seq (.ops [(qS 110 (.mv (.tmp 16))), (qS 111 (.mv (.tmp 18))), (qS 112 (.pu (.n (.ar .geq)) [(.tmp 110), (.tmp 111)])), (qS 8 (.mv (.tmp 112)))]) (.seq (.ops [(qS 113 (.load 2 true (.tmp 4))), (qS 114 (.mv (.tmp 1))), (qS 115 (.mv (.tmp 14))), (qS 116 (.mv (.tmp 3))), (qS 117 (.call (2 * fS + 1) [(.tmp 113), (.tmp 114), (.tmp 115), (.tmp 116)]))]) (.ops [(qS 118 (.mv (.tmp 14))), (qS 119 (.pu (.n (.ar .add)) [(.tmp 118), (ic 1)])), (qS 1 (.mv (.tmp 119)))]))) (.seq (.ops [(qS 120 (.mv (.tmp 17))), (qS 121 (.mv (.tmp 18))), (qS 122 (.pu (.n (.ar .geq)) [(.tmp 120), (.tmp 121)])), (qS 8 (.mv (.tmp 122)))]) (.seq (.ops [(qS 123 (.load 2 true (.tmp 4))), (qS 124 (.mv (.tmp 14))), (qS 125 (.pu (.n (.ar .add)) [(.tmp 124), (ic 1)])), (qS 126 (.mv (.tmp 2))), (qS 127 (.mv (.tmp 3))), (qS 128 (.call (2 * fS + 1) [(.tmp 123), (.tmp 125), (.tmp 126), (.tmp 127)]))]) (.ops [(qS 129 (.mv (.tmp 14))), (qS 2 (.mv (.tmp 129)))]))))))))))
def k_pdq3 (fI fH fB fC fR fP fE fT fS : Nat) : ACode := (.seq (.seq (.ops [(qS 61 (.mv (.tmp 8))), (qS 62 (.mv (.tmp 61))), ⟨(.some 63), (.mv (.tmp 9)), (.some (62, true)), [], .none⟩, (qS 64 (.pick (.tmp 62) (.tmp 63) (.const (.bool false)))), (qS 65 (.mv (.tmp 64))), ⟨(.some 66), (.mv (.tmp 12)), (.some (65, true)), [], .none⟩, ⟨(.some 67), (.pu (.n (.ar .eql)) [(.tmp 66), (ic 1)]), (.some (65, true)), [], .none⟩, (qS 68 (.pick (.tmp 65) (.tmp 67) (.const (.bool false))))]) (.cond (.tmp 68) (.seq (.ops [(qS 69 (.load 2 true (.tmp 4))), (qS 70 (.mv (.tmp 1))), (qS 71 (.mv (.tmp 2))), (qS 72 (.call (2 * fP + 1) [(.tmp 69), (.tmp 70), (.tmp 71)]))]) (.cond (.tmp 72) .ret .skip)) .skip)) (k_pdq4 fI fH fB fC fR fP fE fT fS))
def k_pdq2 (fI fH fB fC fR fP fE fT fS : Nat) : ACode := (.seq (.ops [(qS 43 (.load 2 true (.tmp 4))), (qS 44 (.mv (.tmp 1))), (qS 45 (.mv (.tmp 2))), (qS 46 (.call (2 * fC + 1) [(.tmp 43), (.tmp 44), (.tmp 45)])), (qS 42 (.mv (.tmp 46))), (qS 47 (.extract 0 (.tmp 42))), (qS 48 (.extract 1 (.tmp 42))), (qS 11 (.mv (.tmp 47))), (qS 12 (.mv (.tmp 48)))]) (.seq (.seq (.ops [(qS 49 (.mv (.tmp 12))), (qS 50 (.pu (.n (.ar .eql)) [(.tmp 49), (ic 2)]))]) (.cond (.tmp 50) (.seq (.ops [(qS 51 (.load 2 true (.tmp 4))), (qS 52 (.mv (.tmp 1))), (qS 53 (.mv (.tmp 2))), (qS 54 (.call (2 * fR + 1) [(.tmp 51), (.tmp 52), (.tmp 53)]))]) (.seq (.ops [(qS 55 (.mv (.tmp 2))), (qS 56 (.pu (.n (.ar .sub)) [(.tmp 55), (ic 1)])), (qS 57 (.mv (.tmp 11))), (qS 58 (.mv (.tmp 1))), (qS 59 (.pu (.n (.ar .sub)) [(.tmp 57), (.tmp 58)])), (qS 60 (.pu (.n (.ar .sub)) [(.tmp 56), (.tmp 59)])), (qS 11 (.mv (.tmp 60)))]) (.ops [(qS 12 (.mv (ic 1)))]))) .skip)) (k_pdq3 fI fH fB fC fR fP fE fT fS)))
def k_pdq1 (fI fH fB fC fR fP fE fT fS : Nat) : ACode := (.seq (.seq (.ops [(qS 34 (.mv (.tmp 8))), (qS 35 (.pu (.n (.un .not)) [(.tmp 34)]))]) (.cond (.tmp 35) (.seq (.ops [(qS 36 (.load 2 true (.tmp 4))), (qS 37 (.mv (.tmp 1))), (qS 38 (.mv (.tmp 2))), (qS 39 (.call (2 * fB + 1) [(.tmp 36), (.tmp 37), (.tmp 38)]))]) (.ops [(qS 40 (.mv (.tmp 3))), (qS 41 (.pu (.n (.ar .sub)) [(.tmp 40), (ic 1)])), (qS 3 (.mv (.tmp 41)))])) .skip)) (k_pdq2 fI fH fB fC fR fP fE fT fS))
theorem c_pdq (fI fH fB fC fR fP fE fT fS : Nat) : c_sort_pdqsort_func fI fH fB fC fR fP fE fT fS = ⟨130, (.seq (.ops [(qS 4 (.box (.tmp 0)))]) (.seq (.ops [(qS 8 (.mv (.const (.bool true))))]) (.seq (.ops [(qS 9 (.mv (.const (.bool true))))]) (.block 0 (.loop (.block 1 (.seq (.ops [(qS 19 (.mv (.tmp 2))), (qS 20 (.mv (.tmp 1))), (qS 21 (.pu (.n (.ar .sub)) [(.tmp 19), (.tmp 20)])), (qS 10 (.mv (.tmp 21)))]) (.seq (.seq (.ops [(qS 22 (.mv (.tmp 10))), (qS 23 (.pu (.n (.ar .leq)) [(.tmp 22), (ic 12)]))]) (.cond (.tmp 23) (.seq (.ops [(qS 24 (.load 2 true (.tmp 4))), (qS 25 (.mv (.tmp 1))), (qS 26 (.mv (.tmp 2))), (qS 27 (.call (2 * fI + 1) [(.tmp 24), (.tmp 25), (.tmp 26)]))]) .ret) .skip)) (.seq (.seq (.ops [(qS 28 (.mv (.tmp 3))), (qS 29 (.pu (.n (.ar .eql)) [(.tmp 28), (ic 0)]))]) (.cond (.tmp 29) (.seq (.ops [(qS 30 (.load 2 true (.tmp 4))), (qS 31 (.mv (.tmp 1))), (qS 32 (.mv (.tmp 2))), (qS 33 (.call (2 * fH + 1) [(.tmp 30), (.tmp 31), (.tmp 32)]))]) .ret) .skip)) (k_pdq1 fI fH fB fC fR fP fE fT fS)))))))))), []⟩ := rfl

/-! ### The round, in stages -/
section
variable (lt : α → α → Bool)
def pdqR4 (A : Array α) (a b lim p : Nat) (wb wp : Bool) : Array α :=
  if (decide (a > 0) && !lt A[a - 1]! A[p]!) = true then
    (if a < (partitionEqual lt A a b p).1 ∧ (partitionEqual lt A a b p).1 ≤ b then pdq lt (partitionEqual lt A a b p).2 (partitionEqual lt A a b p).1 b lim wb wp else (partitionEqual lt A a b p).2)
  else
    (if a ≤ (partition lt A a b p).1 ∧ (partition lt A a b p).1 < b then
      (if (partition lt A a b p).1 - a < b - (partition lt A a b p).1 then
        pdq lt (pdq lt (partition lt A a b p).2.2 a (partition lt A a b p).1 lim true true) ((partition lt A a b p).1 + 1) b lim (decide ((partition lt A a b p).1 - a ≥ (b - a) / 8)) (partition lt A a b p).2.1
      else
        pdq lt (pdq lt (partition lt A a b p).2.2 ((partition lt A a b p).1 + 1) b lim true true) a (partition lt A a b p).1 lim (decide (b - (partition lt A a b p).1 ≥ (b - a) / 8)) (partition lt A a b p).2.1)
    else (partition lt A a b p).2.2)
def pdqR3' (pi : Array α × Bool) (a b lim p : Nat) (wb wp : Bool) : Array α := if pi.2 = true then pi.1 else pdqR4 lt pi.1 a b lim p wb wp
def pdqR3 (A : Array α) (a b lim p : Nat) (hint : Hint) (wb wp : Bool) : Array α :=
  pdqR3' lt (if (wb && wp && decide (hint = .increasing)) = true then partialInsertionSort lt A a b else (A, false)) a b lim p wb wp
def pdqR2' (c : Nat × Hint) (A : Array α) (a b lim : Nat) (wb wp : Bool) : Array α :=
  pdqR3 lt (if c.2 = .decreasing then reverseRange A a b else A) a b lim (if c.2 = .decreasing then (b - 1) - (c.1 - a) else c.1) (if c.2 = .decreasing then .increasing else c.2) wb wp
def pdqR2 (A : Array α) (a b lim : Nat) (wb wp : Bool) : Array α := pdqR2' lt (choosePivot lt A a b) A a b lim wb wp
def pdqR1 (A : Array α) (a b lim : Nat) (wb wp : Bool) : Array α := pdqR2 lt (if (!wb) = true then breakPatterns A a b else A) a b (if (!wb) = true then lim - 1 else lim) wb wp
theorem pdq_R {d : Array α} {a b limit : Nat} {wb wp : Bool} : pdq lt d a b limit wb wp = if b - a ≤ 12 then insertionSort lt d a b else if limit = 0 then heapSort lt d a b else pdqR1 lt d a b limit wb wp := by
  rw [pdq]
  rfl
end

/-- What the functions that it calls do. -/
structure PdqK (L : LS env α) (fI fH fB fC fR fP fE fT fS N : Nat) : Prop where
  ki : ∀ {H : Heap} {A : Array α}, L.Lh H A → ∀ a b : Nat, a ≤ L.sz → b ≤ L.sz → CS L (2 * fI + 1) [.agg [L.less, L.swap], nV a, nV b] H (insertionSort L.lt A a b) (.tup [])
  kh : ∀ {H : Heap} {A : Array α}, L.Lh H A → ∀ a b : Nat, a + 2 ≤ b → b ≤ L.sz → CS L (2 * fH + 1) [.agg [L.less, L.swap], nV a, nV b] H (heapSort L.lt A a b) (.tup [])
  kb : ∀ {H : Heap} {A : Array α}, L.Lh H A → ∀ a b : Nat, a ≤ b → b ≤ L.sz → CS L (2 * fB + 1) [.agg [L.less, L.swap], nV a, nV b] H (breakPatterns A a b) (.tup [])
  kc : ∀ {H : Heap} {A : Array α}, L.Lh H A → ∀ a b : Nat, a < b → b ≤ L.sz → CS L (2 * fC + 1) [.agg [L.less, L.swap], nV a, nV b] H A (.tup [nV (choosePivot L.lt A a b).1, nV (hintN (choosePivot L.lt A a b).2)])
  kr : ∀ {H : Heap} {A : Array α}, L.Lh H A → ∀ a b : Nat, a < b → b ≤ L.sz → CS L (2 * fR + 1) [.agg [L.less, L.swap], nV a, nV b] H (reverseRange A a b) (.tup [])
  kp : ∀ {H : Heap} {A : Array α}, L.Lh H A → ∀ a b : Nat, a < b → b ≤ L.sz → CS L (2 * fP + 1) [.agg [L.less, L.swap], nV a, nV b] H (partialInsertionSort L.lt A a b).1 (.i (.s (.bool (partialInsertionSort L.lt A a b).2)))
  ke : ∀ {H : Heap} {A : Array α}, L.Lh H A → ∀ a b p : Nat, a < b → b ≤ L.sz → p < b → CS L (2 * fE + 1) [.agg [L.less, L.swap], nV a, nV b, nV p] H (partitionEqual L.lt A a b p).2 (nV (partitionEqual L.lt A a b p).1)
  kt : ∀ {H : Heap} {A : Array α}, L.Lh H A → ∀ a b p : Nat, a < b → b ≤ L.sz → p < b → CS L (2 * fT + 1) [.agg [L.less, L.swap], nV a, nV b, nV p] H (partition L.lt A a b p).2.2 (.tup [nV (partition L.lt A a b p).1, .i (.s (.bool (partition L.lt A a b p).2.1))])
  ks : ∀ {H : Heap} {A : Array α}, L.Lh H A → ∀ a b lim : Nat, a ≤ b → b ≤ L.sz → b - a < N → lim < 4611686018427387904 → CS L (2 * fS + 1) [.agg [L.less, L.swap], nV a, nV b, nV lim] H (pdq L.lt A a b lim true true) (.tup [])

abbrev bV (b : Bool) : V := .i (.s (.bool b))

theorem partEq_range {lt : α → α → Bool} {A : Array α} {a b p : Nat} (hab : a < b) (hb : b ≤ A.size) : a < (partitionEqual lt A a b p).1 ∧ (partitionEqual lt A a b p).1 ≤ b := by
  unfold partitionEqual
  have := partEqLoop_spec lt a b _ (a + 1) (b - 1) (swp A a p) (Nat.le_refl _) (Nat.lt_succ_self a) (by omega) (by omega) (by rw [size_swp]; exact hb) (fun t h1 h2 => by omega) (fun t h1 h2 => by omega)
  exact ⟨this.1, this.2.1⟩
theorem part_range {lt : α → α → Bool} {A : Array α} {a b p : Nat} (hab : a < b) (hb : b ≤ A.size) : a ≤ (partition lt A a b p).1 ∧ (partition lt A a b p).1 < b := by
  rw [partition_fst]
  have := partLoop_spec lt a b _ (a + 1) (b - 1) (swp A a p) (Nat.le_refl _) (Nat.lt_succ_self a) (by omega) (by omega) (by rw [size_swp]; exact hb) (fun t h1 h2 => by omega) (fun t h1 h2 => by omega)
  exact ⟨this.1, this.2.1⟩

theorem W_pdq4 {L : LS env α} {fI fH fB fC fR fP fE fT fS N : Nat} (k : PdqK L fI fH fB fC fR fP fE fT fS N) {Q : Post} {H h : Heap} {B : Nat} {A S : Array α} {t : Nat → V} (f : Fr L H B h A) {a b lim p : Nat} {wb wp : Bool}
    (g1 : t 1 = nV a) (g2 : t 2 = nV b) (g3 : t 3 = nV lim) (g4 : t 4 = .ptr B 2 0) (g8 : t 8 = bV wb) (g9 : t 9 = bV wp) (g10 : t 10 = nV (b - a)) (g11 : t 11 = nV p)
    (hab : a < b) (hb : b ≤ L.sz) (hp : p < b) (hN : b - a ≤ N) (hlim : lim < 4611686018427387904) (hS : S = pdqR4 L.lt A a b lim p wb wp)
    (hQ : ∀ t h a' b' wb' wp' A', t 1 = nV a' → t 2 = nV b' → t 3 = nV lim → t 4 = .ptr B 2 0 → t 8 = bV wb' → t 9 = bV wp' → a' ≤ b' → b' ≤ L.sz → b' - a' < b - a → Fr L H B h A' → S = pdq L.lt A' a' b' lim wb' wp' → Q .normal t h ∧ Q (.exit 1) t h) :
    @W P env ⟨k_pdq4 fI fH fB fC fR fP fE fT fS⟩ t h ⟨Q⟩ := by
  have big := L.big
  have hsz := L.size f.lh
  unfold k_pdq4
  unfold pdqR4 at hS
  have goE : (decide (a > 0) && !L.lt A[a - 1]! A[p]!) = true → @W P env ⟨k_pdq4 fI fH fB fC fR fP fE fT fS⟩ t h ⟨Q⟩ := by
    intro hc
    rw [if_pos hc, if_pos (partEq_range hab (by omega))] at hS
    simp only [gt_iff_lt, Bool.and_eq_true, decide_eq_true_eq, Bool.not_eq_true'] at hc
    have r := partEq_range (lt := L.lt) (A := A) (p := p) hab (by omega)
    have ha0 : (0 : Int) < (a : Int) := by omega
    have hl := f.lessN (a - 1) p (by omega) (by omega)
    rw [hc.2] at hl
    obtain ⟨h', c1, l1, k1⟩ := k.ke f.lh a b p hab hb hp
    have f1 := f.next l1 k1
    generalize partitionEqual L.lt A a b p = m at *
    unfold k_pdq4
    simp (maxSteps := 2000000) (disch := omega) only [gm, S_dynV, w64_nat, w64_id, nI_add, nI_one, nI_two, nI_sub1, nI_sub, Int.ofNat_lt, Int.ofNat_le, Nat.reduceAdd, Nat.reduceMul, g1, g2, g3, g4, g11, ha0, f.ldL, f.ldB, hl, c1]
    exact And.right (hQ _ _ m.1 b wb wp _ rfl g2 g3 g4 g8 g9 r.2 hb (by omega) f1 hS)
  by_cases hc : (decide (a > 0) && !L.lt A[a - 1]! A[p]!) = true
  · have := goE hc
    unfold k_pdq4 at this
    exact this
  · clear goE
    rw [if_neg hc, if_pos (part_range hab (by omega))] at hS
    have r := part_range (lt := L.lt) (A := A) (p := p) hab (by omega)
    obtain ⟨h', c1, l1, k1⟩ := k.kt f.lh a b p hab hb hp
    have f1 := f.next l1 k1
    obtain ⟨m, hm⟩ : ∃ m, m = partition L.lt A a b p := ⟨_, rfl⟩
    rw [← hm] at hS r c1 f1
    obtain ⟨d, hd⟩ : ∃ d, d = (b - a) / 8 := ⟨_, rfl⟩
    rw [← hd] at hS
    by_cases hlr : m.1 - a < b - m.1
    · rw [if_pos hlr] at hS
      obtain ⟨h2, c2, l2, k2⟩ := k.ks f1.lh a m.1 lim (by omega) (by omega) (by omega) hlim
      have f2 := f1.next l2 k2
      by_cases ha : 0 < a
      · have ha0 : (0 : Int) < (a : Int) := by omega
        have hl := f.lessN (a - 1) p (by omega) (by omega)
        have hc2 : L.lt A[a - 1]! A[p]! = true := by
          cases e : L.lt A[a - 1]! A[p]! with
          | true => rfl
          | false => exact absurd (by simp [ha, e]) hc
        rw [hc2] at hl
        simp (maxSteps := 2000000) (disch := omega) only [gm, S_dynV, w64_nat, w64_id, nI_add, nI_one, nI_two, nI_sub1, nI_sub, Int.ofNat_lt, Int.ofNat_le, Nat.reduceAdd, Nat.reduceMul, g1, g2, g3, g4, g10, g11, ha0, f.ldL, f.ldB, f1.ldB, hl, c1, nI_div8, ← hd, hlr, c2]
        exact And.left (hQ _ _ (m.1 + 1) b _ _ _ rfl g2 g3 g4 rfl rfl (by omega) hb (by omega) f2 hS)
      · have ha0 : ¬ (0 : Int) < (a : Int) := by omega
        simp (maxSteps := 2000000) (disch := omega) only [gm, S_dynV, w64_nat, w64_id, nI_add, nI_one, nI_two, nI_sub1, nI_sub, Int.ofNat_lt, Int.ofNat_le, Nat.reduceAdd, Nat.reduceMul, g1, g2, g3, g4, g10, g11, ha0, f.ldL, f.ldB, f1.ldB, c1, nI_div8, ← hd, hlr, c2]
        exact And.left (hQ _ _ (m.1 + 1) b _ _ _ rfl g2 g3 g4 rfl rfl (by omega) hb (by omega) f2 hS)
    · rw [if_neg hlr] at hS
      obtain ⟨h2, c2, l2, k2⟩ := k.ks f1.lh (m.1 + 1) b lim (by omega) (by omega) (by omega) hlim
      have f2 := f1.next l2 k2
      by_cases ha : 0 < a
      · have ha0 : (0 : Int) < (a : Int) := by omega
        have hl := f.lessN (a - 1) p (by omega) (by omega)
        have hc2 : L.lt A[a - 1]! A[p]! = true := by
          cases e : L.lt A[a - 1]! A[p]! with
          | true => rfl
          | false => exact absurd (by simp [ha, e]) hc
        rw [hc2] at hl
        simp (maxSteps := 2000000) (disch := omega) only [gm, S_dynV, w64_nat, w64_id, nI_add, nI_one, nI_two, nI_sub1, nI_sub, Int.ofNat_lt, Int.ofNat_le, Nat.reduceAdd, Nat.reduceMul, g1, g2, g3, g4, g10, g11, ha0, f.ldL, f.ldB, f1.ldB, hl, c1, nI_div8, ← hd, hlr, c2]
        exact And.left (hQ _ _ a m.1 _ _ _ g1 rfl g3 g4 rfl rfl (by omega) (by omega) (by omega) f2 hS)
      · have ha0 : ¬ (0 : Int) < (a : Int) := by omega
        simp (maxSteps := 2000000) (disch := omega) only [gm, S_dynV, w64_nat, w64_id, nI_add, nI_one, nI_two, nI_sub1, nI_sub, Int.ofNat_lt, Int.ofNat_le, Nat.reduceAdd, Nat.reduceMul, g1, g2, g3, g4, g10, g11, ha0, f.ldL, f.ldB, f1.ldB, c1, nI_div8, ← hd, hlr, c2]
        exact And.left (hQ _ _ a m.1 _ _ _ g1 rfl g3 g4 rfl rfl (by omega) (by omega) (by omega) f2 hS)

theorem W_pdq3 {L : LS env α} {fI fH fB fC fR fP fE fT fS N : Nat} (k : PdqK L fI fH fB fC fR fP fE fT fS N) {Q : Post} {H h : Heap} {B : Nat} {A S : Array α} {t : Nat → V} (f : Fr L H B h A) {a b lim p : Nat} {hint : Hint} {wb wp : Bool}
    (g1 : t 1 = nV a) (g2 : t 2 = nV b) (g3 : t 3 = nV lim) (g4 : t 4 = .ptr B 2 0) (g8 : t 8 = bV wb) (g9 : t 9 = bV wp) (g10 : t 10 = nV (b - a)) (g11 : t 11 = nV p) (g12 : t 12 = nV (hintN hint))
    (hab : a < b) (hb : b ≤ L.sz) (hp : p < b) (hN : b - a ≤ N) (hlim : lim < 4611686018427387904) (hS : S = pdqR3 L.lt A a b lim p hint wb wp)
    (hR : ∀ t h, Fr L H B h S → Q .ret t h)
    (hQ : ∀ t h a' b' wb' wp' A', t 1 = nV a' → t 2 = nV b' → t 3 = nV lim → t 4 = .ptr B 2 0 → t 8 = bV wb' → t 9 = bV wp' → a' ≤ b' → b' ≤ L.sz → b' - a' < b - a → Fr L H B h A' → S = pdq L.lt A' a' b' lim wb' wp' → Q .normal t h ∧ Q (.exit 1) t h) :
    @W P env ⟨k_pdq3 fI fH fB fC fR fP fE fT fS⟩ t h ⟨Q⟩ := by
  have big := L.big
  unfold k_pdq3
  unfold pdqR3 at hS
  by_cases hc : (wb && wp && decide (hint = .increasing)) = true
  · rw [if_pos hc] at hS
    obtain ⟨h', c1, l1, k1⟩ := k.kp f.lh a b hab hb
    have f1 := f.next l1 k1
    generalize partialInsertionSort L.lt A a b = pi at *
    simp only [Bool.and_eq_true, decide_eq_true_eq] at hc
    obtain ⟨⟨rfl, rfl⟩, rfl⟩ := hc
    have e1 : hintN .increasing = 1 := rfl
    rw [e1] at g12
    have e2 : ((1 : Nat) : Int) = 1 := rfl
    unfold pdqR3' at hS
    by_cases hpi : pi.2 = true
    · rw [if_pos hpi] at hS
      rw [hpi] at c1
      subst hS
      simp (maxSteps := 2000000) (disch := omega) only [gm, S_dynV, w64_nat, w64_id, nI_add, nI_one, nI_two, nI_sub1, nI_sub, Int.ofNat_lt, Int.ofNat_le, Nat.reduceAdd, Nat.reduceMul, g1, g2, g3, g4, g8, g9, g12, e2, f.ldB, c1]
      exact hR _ _ f1
    · rw [if_neg hpi] at hS
      rw [Bool.not_eq_true] at hpi
      rw [hpi] at c1
      simp (maxSteps := 2000000) (disch := omega) only [gm, S_dynV, w64_nat, w64_id, nI_add, nI_one, nI_two, nI_sub1, nI_sub, Int.ofNat_lt, Int.ofNat_le, Nat.reduceAdd, Nat.reduceMul, g1, g2, g3, g4, g8, g9, g12, e2, f.ldB, c1]
      exact W_pdq4 k f1 g1 g2 g3 g4 g8 g9 g10 g11 hab hb hp hN hlim hS (fun t h a' b' wb' wp' A' q1 q2 q3 q4 q8 q9 q10 q11 q12 q13 q14 => hQ t h a' b' wb' wp' A' q1 q2 q3 q4 q8 q9 q10 q11 q12 q13 q14)
  · rw [if_neg hc] at hS
    unfold pdqR3' at hS
    rw [if_neg Bool.false_ne_true] at hS
    have d : ∀ t', t' 1 = nV a → t' 2 = nV b → t' 3 = nV lim → t' 4 = .ptr B 2 0 → t' 8 = bV wb → t' 9 = bV wp → t' 10 = nV (b - a) → t' 11 = nV p → @W P env ⟨k_pdq4 fI fH fB fC fR fP fE fT fS⟩ t' h ⟨Q⟩ := fun t' q1 q2 q3 q4 q8 q9 q10 q11 =>
      W_pdq4 k f q1 q2 q3 q4 q8 q9 q10 q11 hab hb hp hN hlim hS hQ
    cases wb with
    | false =>
      simp (maxSteps := 2000000) (disch := omega) only [gm, S_dynV, w64_nat, w64_id, nI_add, nI_one, nI_two, nI_sub1, nI_sub, Int.ofNat_lt, Int.ofNat_le, Nat.reduceAdd, Nat.reduceMul, g1, g2, g3, g4, g8, g9, g12]
      exact d _ g1 g2 g3 g4 g8 g9 g10 g11
    | true =>
      cases wp with
      | false =>
        simp (maxSteps := 2000000) (disch := omega) only [gm, S_dynV, w64_nat, w64_id, nI_add, nI_one, nI_two, nI_sub1, nI_sub, Int.ofNat_lt, Int.ofNat_le, Nat.reduceAdd, Nat.reduceMul, g1, g2, g3, g4, g8, g9, g12]
        exact d _ g1 g2 g3 g4 g8 g9 g10 g11
      | true =>
        have hh : ¬ (hintN hint : Int) = 1 := by
          cases hint with
          | increasing => simp at hc
          | unknown => simp [hintN]
          | decreasing => simp [hintN]
        simp (maxSteps := 2000000) (disch := omega) only [gm, S_dynV, w64_nat, w64_id, nI_add, nI_one, nI_two, nI_sub1, nI_sub, Int.ofNat_lt, Int.ofNat_le, Nat.reduceAdd, Nat.reduceMul, g1, g2, g3, g4, g8, g9, g12, hh]
        exact d _ g1 g2 g3 g4 g8 g9 g10 g11

theorem W_pdq2 {L : LS env α} {fI fH fB fC fR fP fE fT fS N : Nat} (k : PdqK L fI fH fB fC fR fP fE fT fS N) {Q : Post} {H h : Heap} {B : Nat} {A S : Array α} {t : Nat → V} (f : Fr L H B h A) {a b lim : Nat} {wb wp : Bool}
    (g1 : t 1 = nV a) (g2 : t 2 = nV b) (g3 : t 3 = nV lim) (g4 : t 4 = .ptr B 2 0) (g8 : t 8 = bV wb) (g9 : t 9 = bV wp) (g10 : t 10 = nV (b - a))
    (hab : a < b) (hb : b ≤ L.sz) (hN : b - a ≤ N) (hlim : lim < 4611686018427387904) (hS : S = pdqR2 L.lt A a b lim wb wp)
    (hR : ∀ t h, Fr L H B h S → Q .ret t h)
    (hQ : ∀ t h a' b' wb' wp' A', t 1 = nV a' → t 2 = nV b' → t 3 = nV lim → t 4 = .ptr B 2 0 → t 8 = bV wb' → t 9 = bV wp' → a' ≤ b' → b' ≤ L.sz → b' - a' < b - a → Fr L H B h A' → S = pdq L.lt A' a' b' lim wb' wp' → Q .normal t h ∧ Q (.exit 1) t h) :
    @W P env ⟨k_pdq2 fI fH fB fC fR fP fE fT fS⟩ t h ⟨Q⟩ := by
  have big := L.big
  unfold k_pdq2
  unfold pdqR2 at hS
  have cr : a ≤ (choosePivot L.lt A a b).1 ∧ (choosePivot L.lt A a b).1 < b := choosePivot_holds L.lt A a b hab
  obtain ⟨h', c1, l1, k1⟩ := k.kc f.lh a b hab hb
  have f1 := f.next l1 k1
  generalize choosePivot L.lt A a b = c at *
  unfold pdqR2' at hS
  by_cases hc : c.2 = .decreasing
  · rw [if_pos hc, if_pos hc, if_pos hc] at hS
    rw [hc] at c1
    have e1 : hintN .decreasing = 2 := rfl
    rw [e1] at c1
    have e2 : ((2 : Nat) : Int) = 2 := rfl
    obtain ⟨h2, c2, l2, k2⟩ := k.kr f1.lh a b hab hb
    have f2 := f1.next l2 k2
    simp (maxSteps := 2000000) (disch := omega) only [gm, S_dynV, w64_nat, w64_id, nI_add, nI_one, nI_two, nI_sub1, nI_sub, Int.ofNat_lt, Int.ofNat_le, Nat.reduceAdd, Nat.reduceMul, g1, g2, g3, g4, g8, g9, f.ldB, c1, e2, f1.ldB, c2]
    exact W_pdq3 k f2 (p := b - 1 - (c.1 - a)) (hint := .increasing) g1 g2 g3 g4 g8 g9 g10 rfl rfl hab hb (by omega) hN hlim hS hR hQ
  · rw [if_neg hc, if_neg hc, if_neg hc] at hS
    have hh : ¬ (hintN c.2 : Int) = 2 := by
      cases e : c.2 with
      | increasing => simp [hintN]
      | unknown => simp [hintN]
      | decreasing => exact absurd e hc
    simp (maxSteps := 2000000) (disch := omega) only [gm, S_dynV, w64_nat, w64_id, nI_add, nI_one, nI_two, nI_sub1, nI_sub, Int.ofNat_lt, Int.ofNat_le, Nat.reduceAdd, Nat.reduceMul, g1, g2, g3, g4, g8, g9, f.ldB, c1, hh]
    exact W_pdq3 k f1 (p := c.1) (hint := c.2) g1 g2 g3 g4 g8 g9 g10 rfl rfl hab hb cr.2 hN hlim hS hR hQ

theorem W_pdq1 {L : LS env α} {fI fH fB fC fR fP fE fT fS N : Nat} (k : PdqK L fI fH fB fC fR fP fE fT fS N) {Q : Post} {H h : Heap} {B : Nat} {A S : Array α} {t : Nat → V} (f : Fr L H B h A) {a b lim : Nat} {wb wp : Bool}
    (g1 : t 1 = nV a) (g2 : t 2 = nV b) (g3 : t 3 = nV lim) (g4 : t 4 = .ptr B 2 0) (g8 : t 8 = bV wb) (g9 : t 9 = bV wp) (g10 : t 10 = nV (b - a))
    (hab : a < b) (hb : b ≤ L.sz) (hN : b - a ≤ N) (hlim : lim < 4611686018427387904) (h0 : 0 < lim) (hS : S = pdqR1 L.lt A a b lim wb wp)
    (hR : ∀ t h, Fr L H B h S → Q .ret t h)
    (hQ : ∀ t h a' b' lim' wb' wp' A', lim' < 4611686018427387904 → t 1 = nV a' → t 2 = nV b' → t 3 = nV lim' → t 4 = .ptr B 2 0 → t 8 = bV wb' → t 9 = bV wp' → a' ≤ b' → b' ≤ L.sz → b' - a' < b - a → Fr L H B h A' → S = pdq L.lt A' a' b' lim' wb' wp' → Q .normal t h ∧ Q (.exit 1) t h) :
    @W P env ⟨k_pdq1 fI fH fB fC fR fP fE fT fS⟩ t h ⟨Q⟩ := by
  have big := L.big
  unfold k_pdq1
  unfold pdqR1 at hS
  cases wb with
  | true =>
    rw [if_neg (by simp), if_neg (by simp)] at hS
    simp (maxSteps := 2000000) (disch := omega) only [gm, S_dynV, w64_nat, w64_id, nI_add, nI_one, nI_two, nI_sub1, nI_sub, Int.ofNat_lt, Int.ofNat_le, Nat.reduceAdd, Nat.reduceMul, g1, g2, g3, g4, g8, g9]
    exact W_pdq2 k f g1 g2 g3 g4 g8 g9 g10 hab hb hN hlim hS hR (fun t h a' b' wb' wp' A' q => hQ t h a' b' lim wb' wp' A' hlim q)
  | false =>
    rw [if_pos (by simp), if_pos (by simp)] at hS
    obtain ⟨h', c1, l1, k1⟩ := k.kb f.lh a b (Nat.le_of_lt hab) hb
    have f1 := f.next l1 k1
    simp (maxSteps := 2000000) (disch := omega) only [gm, S_dynV, w64_nat, w64_id, nI_add, nI_one, nI_two, nI_sub1, nI_sub, Int.ofNat_lt, Int.ofNat_le, Nat.reduceAdd, Nat.reduceMul, g1, g2, g3, g4, g8, g9, f.ldB, c1]
    exact W_pdq2 k f1 (lim := lim - 1) g1 g2 rfl g4 g8 g9 g10 hab hb hN (by omega) hS hR (fun t h a' b' wb' wp' A' q => hQ t h a' b' (lim - 1) wb' wp' A' (by omega) q)

theorem W_pdqsort {L : LS env α} {fI fH fB fC fR fP fE fT fS N : Nat} (k : PdqK L fI fH fB fC fR fP fE fT fS N) {H : Heap} {A : Array α} (hL : L.Lh H A) (a b lim : Nat) (hab : a ≤ b) (hb : b ≤ L.sz) (hN : b - a ≤ N) (hlim : lim < 4611686018427387904) :
    R P env (c_sort_pdqsort_func fI fH fB fC fR fP fE fT fS) [.agg [L.less, L.swap], nV a, nV b, nV lim] H (PostS L H (pdq L.lt A a b lim true true) (.tup [])) := by
  have big := L.big
  rw [c_pdq]
  refine R_of (by simp) ?_
  have f0 := Fr.start hL
  simp (maxSteps := 2000000) (disch := omega) only [gm, S_dynV, w64_nat, w64_id, nI_add, nI_one, nI_two, nI_sub1, nI_sub, Int.ofNat_lt, Int.ofNat_le, Nat.reduceAdd, Nat.reduceMul, L.oneL, L.oneS]
  generalize H ++ [.cells [L.less, L.swap]] = h0 at f0 ⊢
  generalize H.length = B at f0 ⊢
  obtain ⟨S, hS⟩ : ∃ S, S = pdq L.lt A a b lim true true := ⟨_, rfl⟩
  rw [← hS]
  refine W_loopK (fun n t h => ∃ a b lim wb wp A', n = b - a ∧ lim < 4611686018427387904 ∧ t 1 = nV a ∧ t 2 = nV b ∧ t 3 = nV lim ∧ t 4 = .ptr B 2 0 ∧ t 8 = bV wb ∧ t 9 = bV wp ∧ a ≤ b ∧ b ≤ L.sz ∧ b - a ≤ N ∧ Fr L H B h A' ∧ S = pdq L.lt A' a b lim wb wp) (b - a) ⟨a, b, lim, true, true, A, rfl, hlim, rfl, rfl, rfl, rfl, rfl, rfl, hab, hb, hN, f0, hS⟩ ?_
  clear f0 hS hL hab hb hN hlim
  clear h0 lim a b
  rintro K n t h hn hx ⟨a, b, lim, wb, wp, A', rfl, hlim, g1, g2, g3, g4, g8, g9, hab, hb, hN, f, hS⟩
  rw [pdq_R] at hS
  have hret : ∀ t' h', Fr L H B h' S → K .ret t' h' := by
    intro t' h' f2
    refine hx _ _ _ (by simp) ?_
    simp (maxSteps := 2000000) (disch := omega) only [gm, S_dynV, w64_nat, w64_id, nI_add, nI_one, nI_two, nI_sub1, nI_sub, Int.ofNat_lt, Int.ofNat_le, Nat.reduceAdd, Nat.reduceMul]
    exact ⟨rfl, f2.lh, f2.keep⟩
  by_cases h12 : b - a ≤ 12
  · rw [if_pos h12] at hS
    have h12' : ((b - a : Nat) : Int) ≤ 12 := by omega
    obtain ⟨h', c1, l1, k1⟩ := k.ki f.lh a b (by omega) hb
    have f1 := f.next l1 k1
    simp (maxSteps := 2000000) (disch := omega) only [gm, S_dynV, w64_nat, w64_id, nI_add, nI_one, nI_two, nI_sub1, nI_sub, Int.ofNat_lt, Int.ofNat_le, Nat.reduceAdd, Nat.reduceMul, g1, g2, g3, g4, h12', f.ldB, c1]
    exact hret _ _ (by rw [hS]; exact f1)
  · rw [if_neg h12] at hS
    have h12' : ¬ ((b - a : Nat) : Int) ≤ 12 := by omega
    by_cases h0 : lim = 0
    · rw [if_pos h0] at hS
      have h0' : (lim : Int) = 0 := by omega
      obtain ⟨h', c1, l1, k1⟩ := k.kh f.lh a b (by omega) hb
      have f1 := f.next l1 k1
      simp (maxSteps := 2000000) (disch := omega) only [gm, S_dynV, w64_nat, w64_id, nI_add, nI_one, nI_two, nI_sub1, nI_sub, Int.ofNat_lt, Int.ofNat_le, Nat.reduceAdd, Nat.reduceMul, g1, g2, g3, g4, h12', h0', f.ldB, c1]
      exact hret _ _ (by rw [hS]; exact f1)
    · rw [if_neg h0] at hS
      have h0' : ¬ (lim : Int) = 0 := by omega
      simp (maxSteps := 2000000) (disch := omega) only [gm, S_dynV, w64_nat, w64_id, nI_add, nI_one, nI_two, nI_sub1, nI_sub, Int.ofNat_lt, Int.ofNat_le, Nat.reduceAdd, Nat.reduceMul, g1, g2, g3, g4, h12', h0']
      refine W_pdq1 k f g1 g2 g3 g4 g8 g9 rfl (by omega) hb hN hlim (by omega) hS ?_ ?_
      · intro t h f2
        simp (maxSteps := 2000000) (disch := omega) only [gm, S_dynV, w64_nat, w64_id, nI_add, nI_one, nI_two, nI_sub1, nI_sub, Int.ofNat_lt, Int.ofNat_le, Nat.reduceAdd, Nat.reduceMul]
        exact hret _ _ f2
      · intro t h a' b' lim' wb' wp' A2 hl q1 q2 q3 q4 q8 q9 q10 q11 q12 q13 q14
        have e := hn (b' - a') t h q12 ⟨a', b', lim', wb', wp', A2, rfl, hl, q1, q2, q3, q4, q8, q9, q10, q11, by omega, q13, q14⟩
        constructor
        · simp (maxSteps := 2000000) (disch := omega) only [gm, S_dynV, w64_nat, w64_id, nI_add, nI_one, nI_two, nI_sub1, nI_sub, Int.ofNat_lt, Int.ofNat_le, Nat.reduceAdd, Nat.reduceMul]
          exact e
        · simp (maxSteps := 2000000) (disch := omega) only [gm, S_dynV, w64_nat, w64_id, nI_add, nI_one, nI_two, nI_sub1, nI_sub, Int.ofNat_lt, Int.ofNat_le, Nat.reduceAdd, Nat.reduceMul]
          exact e
end Go.AM

set_option linter.unusedVariables false
set_option linter.unusedSimpArgs false
set_option maxRecDepth 20000
namespace Go.AM
open Go.Sort

abbrev sV (v : Value) : V := .i (.s v)

def oneC (v : Value) : Bool := v.oneCell'

def rowAt (z i : Nat) (vs : List Value) : List Value := (vs.drop (i * z)).take z
def swapVs (z : Nat) (vs : List Value) (i j : Nat) : Array Value := setMany (setMany vs.toArray (i * z) (rowAt z j vs)) (j * z) (rowAt z i vs)

open Classical in
/-- Two elements change places, in a row of scalar structs of the function's own. -/
noncomputable def swapFn (z : Nat) (hd : Value) : Fun := fun _ args H => match args with
  | [.i (.s (.int .i64 i)), .i (.s (.int .i64 j)), .hsl b g 0 z' true len, .kv u] =>
      if u = hd ∧ z' = z ∧ 0 < z ∧ g = len * z ∧ 0 ≤ i ∧ i < len ∧ 0 ≤ j ∧ j < len then
        (getCells H b g).bind fun cs => (cs.mapM scal).bind fun vs => if vs.all plain = true then some (.tup [], H.set b (.cells ((swapVs z vs i.toNat j.toNat).toList.map sV))) else none
      else none
  | _ => none

theorem scals_rv {w : World} {base : Nat} {M : Nat → Prop} {H : Heap} {G : List Nat} : ∀ {cs : List V} {vs xs : List Value}, cs.mapM scal = some vs → RVL w base M H G cs xs → xs = vs ∧ cs = vs.map sV
  | [], vs, xs, h, hr => by cases h; cases hr; exact ⟨rfl, rfl⟩
  | c :: cs, vs, xs, h, hr => by
    rw [List.mapM_cons] at h
    obtain ⟨v, h1, h⟩ := Option.bind_eq_some_iff.1 h
    obtain ⟨l, h2, h⟩ := Option.bind_eq_some_iff.1 h
    cases h
    unfold scal at h1
    split at h1
    · cases h1
      cases hr with
      | cons a b =>
        obtain ⟨e1, e2⟩ := scals_rv h2 b
        subst e1
        subst e2
        cases a with
        | i hi => cases hi; exact ⟨rfl, rfl⟩
    · cases h1
theorem rv_scals {w : World} {base : Nat} {M : Nat → Prop} {H : Heap} {G : List Nat} : ∀ (xs : List Value), xs.all plain = true → RVL w base M H G (xs.map sV) xs
  | [], _ => .nil
  | x :: xs, h => by
    simp only [List.all_cons, Bool.and_eq_true] at h
    exact .cons (.i (.s h.1)) (rv_scals xs h.2)

theorem take_putId (cur : Array Value) (F : Array Value) (h : F.size ≤ cur.size) : (putCells id 0 F cur).toList.take F.size = F.toList := by
  apply List.ext_getElem?
  intro j
  by_cases hj : j < F.size
  · rw [List.getElem?_take_of_lt hj, Array.getElem?_toList]
    simp [putCells, hj, show j < cur.size by omega]
  · rw [List.getElem?_take, if_neg hj]
    simp; omega

theorem holdsId {w : World} {g : Nat} {cur : Array Value} {e : TypeId} {F : List Value} (hb : w.heap[g]? = some (.cells cur e (0, 0))) (ht : cur.toList.take F.length = F) : Holds id w g 0 F.toArray := by
  intro j hj
  have hj' : j < F.length := by simpa using hj
  refine ⟨?_, by simp [World.frozen?, hb]⟩
  have h1 : (cur.toList.take F.length)[j]? = F[j]? := by rw [ht]
  rw [List.getElem?_take_of_lt hj', Array.getElem?_toList] at h1
  simp [World.cell?, hb, h1, hj']

theorem mem_setMany {p : Value → Prop} : ∀ (vs : List Value) (s : Nat) (F : Array Value), (∀ x, x ∈ F → p x) → (∀ x, x ∈ vs → p x) → ∀ x, x ∈ setMany F s vs → p x
  | [], s, F, hF, _, x, hx => hF x hx
  | v :: r, s, F, hF, hv, x, hx => by
    rw [setMany] at hx
    refine mem_setMany r (s + 1) _ ?_ (fun y hy => hv y (List.mem_cons_of_mem _ hy)) x hx
    intro y hy
    rcases Array.mem_or_eq_of_mem_setIfInBounds hy with h | h
    · exact hF y h
    · rw [h]; exact hv v (by simp)

theorem size_setMany' (vs : List Value) (s : Nat) (F : Array Value) : (setMany F s vs).size = F.size := size_setMany vs s F
theorem swapVs_size {z i j : Nat} {vs : List Value} : (swapVs z vs i j).size = vs.length := by
  unfold swapVs
  rw [size_setMany, size_setMany]
  simp
theorem rowAt_mem {z i : Nat} {vs : List Value} {x : Value} (h : x ∈ rowAt z i vs) : x ∈ vs := List.mem_of_mem_drop (List.mem_of_mem_take h)
theorem swapVs_all {z i j : Nat} {vs : List Value} (h : vs.all plain = true) : (swapVs z vs i j).toList.all plain = true := by
  rw [List.all_eq_true] at h ⊢
  intro x hx
  have hx : x ∈ swapVs z vs i j := by simpa using hx
  unfold swapVs at hx
  refine mem_setMany (p := fun x => plain x = true) _ _ _ ?_ (fun y hy => h y (rowAt_mem hy)) x hx
  refine mem_setMany (p := fun x => plain x = true) _ _ _ ?_ (fun y hy => h y (rowAt_mem hy))
  intro y hy
  exact h y (by simpa using hy)

theorem rv_hslz {w : World} {base : Nat} {M : Nat → Prop} {H : Heap} {G : List Nat} {b g z len : Nat} {ag : Bool} {x : Value} (h : RV w base M H G (.hsl b g 0 z ag len) x) :
    (∃ a cap, x = .slice (some a) len cap ∧ H[b]? ≠ some .virt ∧ ∀ cs, cellsAt H b g = some cs → HslAt w (G.getD b 0) g 0 z len cap a) ∨ (x = .slice none 0 0 ∧ len = 0) := by
  cases h with
  | hsl _ hn _ _ hat => exact .inl ⟨_, _, rfl, hn, hat⟩
  | hnil _ _ => exact .inr ⟨rfl, rfl⟩

theorem plain_one' {v : Value} (h : plain v = true) : v.oneCell' = true := by cases v <;> simp_all [plain, Value.oneCell']

theorem args4 {w : World} {base : Nat} {M : Nat → Prop} {H : Heap} {G : List Nat} {i j : Int} {y : V} {u : Value} {xs : List Value} (h : RVL w base M H G [.i (.s (.int .i64 i)), .i (.s (.int .i64 j)), y, .kv u] xs) :
    ∃ x, xs = [.int .i64 i, .int .i64 j, x, u] ∧ RV w base M H G y x := by
  cases h with
  | cons a h =>
    cases h with
    | cons b h =>
      cases h with
      | cons c h =>
        cases h with
        | cons d h =>
          cases h
          cases a with
          | i a =>
            cases a
            cases b with
            | i b =>
              cases b
              cases d
              exact ⟨_, rfl, c⟩

theorem swapFn_ok {P : Program} {f : FuncId} {z : Nat} {e : TypeId} {ie : TypeInfo} (gS : Bool) (hx : ∀ args W, (callFunc f args).run P W = ((Extern.ReflectliteSwapper.swap gS args).run P W).andThen fun v w' => .ok (.value v) w')
    (hie : P.info? e = some ie) (hs : ie.size = z) (hagg : ∀ w, (isAgg e).run P w = .ok true w) : FunOK P f (swapFn z (typeHandle P e)) := by
  intro slot args H v H' hg
  refine .inr ?_
  unfold swapFn at hg
  split at hg
  case h_2 => cases hg
  rename_i i j b g z' len u
  split at hg
  case isFalse => cases hg
  rename_i hc
  obtain ⟨rfl, rfl, hz, hgl, hi0, hi, hj0, hj⟩ := hc
  subst hs
  obtain ⟨cs, hcs, hg⟩ := Option.bind_eq_some_iff.1 hg
  obtain ⟨vs, hvs, hg⟩ := Option.bind_eq_some_iff.1 hg
  split at hg
  case isFalse => cases hg
  rename_i hpl
  simp only [Option.some.injEq, Prod.mk.injEq] at hg
  obtain ⟨rfl, rfl⟩ := hg
  obtain ⟨i, rfl⟩ : ∃ n : Nat, i = (n : Int) := ⟨i.toNat, by omega⟩
  obtain ⟨j, rfl⟩ : ∃ n : Nat, j = (n : Int) := ⟨j.toNat, by omega⟩
  replace hi : i < len := by omega
  replace hj : j < len := by omega
  simp only [Int.toNat_natCast]
  intro base X w G xs hS hl
  obtain ⟨x, hxs, hxv⟩ := args4 hl
  obtain rfl : xs = #[.int .i64 i, .int .i64 j, x, typeHandle P e] := by apply Array.ext'; exact hxs
  clear hxs hl
  rcases rv_hslz hxv with ⟨a, cap, rfl, hn, hat⟩ | ⟨rfl, h0⟩
  case inr => omega
  replace hcs := getCells_not hcs hn
  obtain ⟨arr, ty, g1, e1, e2, e3, e4, e5, e6⟩ := hS.at hcs
  have hA := (hat cs hcs).1 (.inl (by omega))
  subst hA
  clear hat hxv
  generalize G.getD b 0 = k0 at *
  obtain ⟨q1, q2⟩ := scals_rv hvs e4
  have hlen : cs.length = vs.length := by rw [q2]; simp
  have hvl : vs.length = len * ie.size := by omega
  have hH : Holds id w (k0) 0 vs.toArray := holdsId e1 (by rw [← hlen]; exact q1)
  have le : ∀ k, k < len → k * ie.size + ie.size ≤ vs.length := fun k hk => by
    have := Nat.mul_le_mul_right ie.size (show k + 1 ≤ len from hk)
    rw [Nat.add_mul, Nat.one_mul] at this
    omega
  have lenR : ∀ k, k < len → (rowAt ie.size k vs).length = ie.size := fun k hk => by
    have := le k hk
    unfold rowAt
    rw [List.length_take, List.length_drop]
    omega
  have oneR : ∀ k, ∀ v ∈ rowAt ie.size k vs, v.oneCell' = true := fun k v hv => plain_one' (List.all_eq_true.1 hpl v (rowAt_mem hv))
  have cR : ∀ r, r < len → ∀ k v, (rowAt ie.size r vs)[k]? = some v → w.cell? ⟨k0, 0 + r * ie.size + k, none⟩ = some v := fun r hr k v hv => by
    have hk : k < ie.size := by rw [← lenR r hr]; exact (List.getElem?_eq_some_iff.1 hv).1
    have := le r hr
    have h1 := (hH (r * ie.size + k) (by simp; omega)).1
    rw [Nat.zero_add] at h1 ⊢
    rw [h1]
    unfold rowAt at hv
    rw [List.getElem?_take_of_lt hk, List.getElem?_drop] at hv
    simp [hv]
  have fR : ∀ r, r < len → ∀ k, k < ie.size → w.frozen? ⟨k0, 0 + r * ie.size + k, none⟩ = false := fun r hr k hk => by
    have := le r hr
    have h1 := (hH (r * ie.size + k) (by simp; omega)).2
    rw [Nat.zero_add] at h1 ⊢
    exact h1
  have hrun := Lib.run_swap_cells (P := P) gS e ie hie hagg (k0) 0 len cap i j hi hj (rowAt ie.size i vs) (rowAt ie.size j vs) (lenR i hi) (lenR j hj) (oneR i) (oneR j) w (cR i hi) (cR j hj) (fR i hi) (fR j hj)
  have hW : (w.setCells (k0) (0 + i * ie.size) (rowAt ie.size j vs)).setCells (k0) (0 + j * ie.size) (rowAt ie.size i vs) = putRow id w (k0) 0 (swapVs ie.size vs i j) := by
    have hw := putRow_self id w (k0) 0 vs.toArray hH
    have h1 := setCells_putRow w (k0) 0 (rowAt ie.size j vs) (i * ie.size) vs.toArray (by have := le i hi; rw [lenR j hj]; simpa using this)
    rw [hw] at h1
    rw [h1, setCells_putRow w (k0) 0 (rowAt ie.size i vs) (j * ie.size) _ (by have := le j hj; rw [lenR i hi, size_setMany]; simpa using this)]
    rfl
  rw [hW] at hrun
  have hsz := swapVs_size (z := ie.size) (i := i) (j := j) (vs := vs)
  have hall := swapVs_all (z := ie.size) (i := i) (j := j) hpl
  generalize swapVs ie.size vs i j = F at hrun hsz hall ⊢
  have hb1 : (putRow id w (k0) 0 F).heap[k0]? = some (.cells (putCells id 0 F arr) ty (0, 0)) := by
    simp [putRow, mapBlock, Array.getElem?_modify, e1, onCells]
  have hold : ∀ k', k' ≠ k0 → (putRow id w (k0) 0 F).heap[k']? = w.heap[k']? := fun k' hk => by
    have : k0 ≠ k' := fun e => hk e.symm
    simp only [putRow, mapBlock, Array.getElem?_modify]
    rw [if_neg this]
  obtain ⟨hE, hS'⟩ := change_ok (cs' := F.toList.map sV) hS e6 g1 e1 hb1 (by simp [putCells]) (by simp; omega) (by simp [putCells]; omega) rfl rfl rfl (by simp [putRow, mapBlock]) hold (by
    rw [show (F.toList.map sV).length = F.size by simp, take_putId arr F (by omega)]
    exact rv_scals _ hall) (by
    intro y hy
    obtain ⟨s, hs, rfl⟩ := List.mem_map.1 hy
    have := List.all_eq_true.1 hall s hs
    simp [V.one])
  refine ⟨.tuple #[], _, G, ?_, hE, hS', .tup .nil⟩
  rw [hx, hrun]
  rfl
end Go.AM

set_option linter.unusedVariables false
set_option linter.unusedSimpArgs false
namespace Go.AM
open Go.Sort

/-- The environment in which the functions of T may be called, n deep. -/
noncomputable def envN (P : Program) (base : Env) (T : Nat → Option AFn) : Nat → Env
  | 0 => base
  | n + 1 => fun c slot args h => if c % 2 = 0 then base c slot args h else match T (c / 2) with
    | some F => runFn P (envN P base T n) F args h
    | none => base c slot args h

section
variable {P : Program} {base : Env} {T : Nat → Option AFn} {α : Type} [Inhabited α]

theorem envN_even {n f : Nat} : envN P base T n (2 * f) = base (2 * f) := by
  cases n with
  | zero => rfl
  | succ n =>
    funext slot args h
    simp only [envN]
    rw [if_pos (by omega)]
theorem envN_odd {n f : Nat} {F : AFn} (hT : T f = some F) : envN P base T (n + 1) (2 * f + 1) = runIn P (envN P base T n) F := by
  funext slot args h
  simp only [envN]
  rw [if_neg (by omega), show (2 * f + 1) / 2 = f by omega, hT]
  rfl
theorem dynV_envN {n : Nat} {f : V} {args : List V} {h : Heap} : dynV (envN P base T n) f args h = dynV base f args h := by
  cases f <;> simp only [dynV, envN_even]

theorem envN_ok {md : Modes} (hb : EnvOK P base) (hT : ∀ f F, T f = some F → callable P f = true ∧ compFn P (fun _ => false) md f = some F) : ∀ n, EnvOK P (envN P base T n)
  | 0 => hb
  | n + 1 => by
    intro c slot args H v H' h
    simp only [envN] at h
    split at h
    · exact hb c slot args H v H' h
    · split at h
      · rename_i F hF
        obtain ⟨h1, h2⟩ := hT _ F hF
        exact .inl ⟨h1, fn_ok (envN_ok hb hT n) (fun f hf => by cases hf) h2 h⟩
      · exact hb c slot args H v H' h

/-- The same order and row, further up. -/
def LS.at (L : LS base α) (P : Program) (T : Nat → Option AFn) (n : Nat) : LS (envN P base T n) α where
  less := L.less
  swap := L.swap
  lt := L.lt
  n := L.n
  sz := L.sz
  Lh := L.Lh
  low := L.low
  size := L.size
  big := L.big
  oneL := L.oneL
  oneS := L.oneS
  nilL := L.nilL
  nilS := L.nilS
  same := L.same
  lessW hL i j hi hj := by rw [dynV_envN]; exact L.lessW hL i j hi hj
  swapW hL i j hi hj := by
    obtain ⟨h', h1, h2⟩ := L.swapW hL i j hi hj
    exact ⟨h', by rw [dynV_envN]; exact h1, h2⟩

theorem CS.step {L : LS base α} {n f : Nat} {F : AFn} {args : List V} {H : Heap} {A' : Array α} {v0 : V} (hT : T f = some F) (h : R P (envN P base T n) F args H (PostS (L.at P T n) H A' v0)) : CS (L.at P T (n + 1)) (2 * f + 1) args H A' v0 := by
  obtain ⟨⟨v, h'⟩, h1, h2⟩ := h
  have p : PostS (L.at P T n) H A' v0 v h' := h2
  refine ⟨h', ?_, p.lh, p.keep⟩
  rw [envN_odd hT]
  exact h1.trans (by rw [p.val])
theorem CP.step {L : LS base α} {n f C s : Nat} {F : AFn} {args : List V} {H : Heap} {A : Array α} {v0 : V} (hT : T f = some F) (h : R P (envN P base T n) F args H (PostP (L.at P T n) C s H A v0)) : CP (L.at P T (n + 1)) (2 * f + 1) args C s H A v0 := by
  obtain ⟨⟨v, h'⟩, h1, h2⟩ := h
  have p : PostP (L.at P T n) C s H A v0 v h' := h2
  refine ⟨h', ?_, p.lh, p.keep, p.cell⟩
  rw [envN_odd hT]
  exact h1.trans (by rw [p.val])

/-- Which code is whose. -/
structure SortT (T : Nat → Option AFn) (fI fH fB fC fR fP fE fT fS fD fO fM fA fX fN : Nat) : Prop where
  tI : T fI = some c_sort_insertionSort_func
  tD : T fD = some c_sort_siftDown_func
  tH : T fH = some (c_sort_heapSort_func fD)
  tR : T fR = some c_sort_reverseRange_func
  tP : T fP = some c_sort_partialInsertionSort_func
  tE : T fE = some c_sort_partitionEqual_func
  tT : T fT = some c_sort_partition_func
  tO : T fO = some c_sort_order2_func
  tM : T fM = some (c_sort_median_func fO)
  tA : T fA = some (c_sort_medianAdjacent_func fM)
  tC : T fC = some (c_sort_choosePivot_func fA fM)
  tX : T fX = some c_sort_xorshift_Next
  tB : T fB = some (c_sort_breakPatterns_func fN fX)
  tS : T fS = some (c_sort_pdqsort_func fI fH fB fC fR fP fE fT fS)

variable {fI fH fB fC fR fP fE fT fS fD fO fM fA fX fN : Nat}

theorem pdq_all (t : SortT T fI fH fB fC fR fP fE fT fS fD fO fM fA fX fN) (L : LS base α) (kn : ∀ (h : Heap) (l : Nat), l < 4611686018427387904 → base (2 * fN) none [nV l] h = some (uV (1 <<< bitsLen l), h)) :
    ∀ (N n : Nat), N ≤ n → ∀ {H : Heap} {A : Array α}, L.Lh H A → ∀ a b lim : Nat, a ≤ b → b ≤ L.sz → b - a ≤ N → lim < 4611686018427387904 →
      CS (L.at P T (n + 5)) (2 * fS + 1) [.agg [L.less, L.swap], nV a, nV b, nV lim] H (pdq L.lt A a b lim true true) (.tup []) := by
  have kn' : ∀ n (h : Heap) (l : Nat), l < 4611686018427387904 → envN P base T n (2 * fN) none [nV l] h = some (uV (1 <<< bitsLen l), h) := fun n h l hl => by rw [envN_even]; exact kn h l hl
  have kD : ∀ n {H A}, L.Lh H A → ∀ lo hi first : Nat, first + hi ≤ L.sz → lo ≤ L.sz → CS (L.at P T (n + 1)) (2 * fD + 1) [.agg [L.less, L.swap], nV lo, nV hi, nV first] H (siftDown L.lt hi first lo A) (.tup []) :=
    fun n H A hL lo hi first h1 h2 => CS.step t.tD (W_siftDown (L := L.at P T n) hL lo hi first h1 h2)
  have kO : ∀ n {H A}, L.Lh H A → ∀ a b C s : Nat, a < L.sz → b < L.sz → L.n ≤ C → H[C]? = some (.cells [nV s]) → s < 100 →
      CP (L.at P T (n + 1)) (2 * fO + 1) [.agg [L.less, L.swap], nV a, nV b, .ptr C 1 0] C (order2 L.lt A a b s).2.2 H A (.tup [nV (order2 L.lt A a b s).1, nV (order2 L.lt A a b s).2.1]) :=
    fun n H A hL a b C s h1 h2 h3 h4 h5 => CP.step t.tO (W_order2 (L := L.at P T n) hL a b C s h1 h2 h3 h4 h5)
  have kM : ∀ n {H A}, L.Lh H A → ∀ a b c s C : Nat, a < L.sz → b < L.sz → c < L.sz → L.n ≤ C → H[C]? = some (.cells [nV s]) → s < 50 →
      CP (L.at P T (n + 2)) (2 * fM + 1) [.agg [L.less, L.swap], nV a, nV b, nV c, .ptr C 1 0] C (median L.lt A a b c s).2 H A (nV (median L.lt A a b c s).1) :=
    fun n H A hL a b c s C h1 h2 h3 h4 h5 h6 => CP.step t.tM (W_median (L := L.at P T (n + 1)) (fun {H} hL a b s q1 q2 q3 q4 => kO n hL a b C s q1 q2 h4 q3 q4) hL a b c s h1 h2 h3 h4 h5 h6)
  have kA : ∀ n {H A}, L.Lh H A → ∀ a s C : Nat, a + 1 < L.sz → 1 ≤ a → L.n ≤ C → H[C]? = some (.cells [nV s]) → s < 50 →
      CP (L.at P T (n + 3)) (2 * fA + 1) [.agg [L.less, L.swap], nV a, .ptr C 1 0] C (medianAdjacent L.lt A a s).2 H A (nV (medianAdjacent L.lt A a s).1) :=
    fun n H A hL a s C h1 h2 h3 h4 h5 => CP.step t.tA (W_medianAdjacent (L := L.at P T (n + 2)) (fun {H} hL a b c s q1 q2 q3 q4 q5 => kM n hL a b c s C q1 q2 q3 h3 q4 q5) hL a s h1 h2 h3 h4 h5)
  have kX : ∀ n (h : Heap) (C X : Nat), X < 18446744073709551616 → h[C]? = some (.cells [uV X]) → envN P base T (n + 1) (2 * fX + 1) none [.ptr C 1 0] h = some (uV (xorNextN X), h.set C (.cells [uV (xorNextN X)])) := fun n h C X hX hC => by
    obtain ⟨⟨v, h'⟩, h1, h2⟩ := W_Next (P := P) (env := envN P base T n) hX hC
    rw [envN_odd t.tX]
    have h2 : v = uV (xorNextN X) ∧ h' = h.set C (.cells [uV (xorNextN X)]) := h2
    obtain ⟨rfl, rfl⟩ := h2
    exact h1
  have K : ∀ n N, (∀ {H : Heap} {A : Array α}, L.Lh H A → ∀ a b lim : Nat, a ≤ b → b ≤ L.sz → b - a < N → lim < 4611686018427387904 → CS (L.at P T (n + 4)) (2 * fS + 1) [.agg [L.less, L.swap], nV a, nV b, nV lim] H (pdq L.lt A a b lim true true) (.tup [])) →
      PdqK (L.at P T (n + 4)) fI fH fB fC fR fP fE fT fS N := fun n N hs =>
    { ki := fun {H A} hL a b h1 h2 => CS.step t.tI (W_insertionSort (L := L.at P T (n + 3)) hL a b h2 h1)
      kh := fun {H A} hL a b h1 h2 => CS.step t.tH (W_heapSort (L := L.at P T (n + 3)) (kD (n + 2)) hL a b h2 h1)
      kb := fun {H A} hL a b h1 h2 => CS.step t.tB (W_breakPatterns (L := L.at P T (n + 3)) (kn' (n + 3)) (kX (n + 2)) hL a b h1 h2)
      kc := fun {H A} hL a b h1 h2 => CS.step t.tC (W_choosePivot (L := L.at P T (n + 3)) (kA n) (kM (n + 1)) hL a b h1 h2)
      kr := fun {H A} hL a b h1 h2 => CS.step t.tR (W_reverseRange (L := L.at P T (n + 3)) hL a b h2 h1)
      kp := fun {H A} hL a b h1 h2 => CS.step t.tP (W_partialInsertionSort (L := L.at P T (n + 3)) hL a b h2 h1)
      ke := fun {H A} hL a b p h1 h2 h3 => CS.step t.tE (W_partitionEqual (L := L.at P T (n + 3)) hL a b p h2 h1 h3)
      kt := fun {H A} hL a b p h1 h2 h3 => CS.step t.tT (W_partition (L := L.at P T (n + 3)) hL a b p h2 h1 h3)
      ks := hs }
  intro N
  induction N with
  | zero =>
    intro n _ H A hL a b lim h1 h2 h3 h4
    exact CS.step t.tS (W_pdqsort (L := L.at P T (n + 4)) (K n 0 (fun _ _ _ _ _ _ h => absurd h (Nat.not_lt_zero _))) hL a b lim h1 h2 h3 h4)
  | succ N ih =>
    intro n hn H A hL a b lim h1 h2 h3 h4
    obtain ⟨m, rfl⟩ : ∃ m, n = m + 1 := ⟨n - 1, by omega⟩
    exact CS.step t.tS (W_pdqsort (L := L.at P T (m + 1 + 4)) (K (m + 1) (N + 1) (fun hL a b lim q1 q2 q3 q4 => ih m (by omega) hL a b lim q1 q2 (by omega) q4)) hL a b lim h1 h2 h3 h4)
end
end Go.AM

set_option linter.unusedVariables false
set_option linter.unusedSimpArgs false
namespace Go.AM
open Go.Sort Go.Shelf

/-- sort.Slice at a slice of structs: what its pdqsort does. -/
noncomputable def sliceFn (P : Program) (base : Env) (T : Nat → Option AFn) (pd : AFn) (tid z fW : Nat) (hd : Value) : Fun := fun _ args H => match args with
  | [.ifc t (.hsl b g 0 z' true len), .clo gid caps] => if t = tid ∧ z' = z then
      (if len ≤ 1 then some (.tup [], H)
       else if len < 4611686018427387904 then runFn P (envN P base T (len + 4)) pd [.agg [.clo gid caps, .clo fW [.hsl b g 0 z' true len, .kv hd]], nV 0, nV len, nV (Lib.bitLen len)] H
       else none) else none
  | _ => none

theorem args2 {w : World} {base : Nat} {M : Nat → Prop} {H : Heap} {G : List Nat} {t g : Nat} {y : V} {caps : List V} {xs : Array Value} (h : RVL w base M H G [.ifc t y, .clo g caps] xs.toList) :
    ∃ x ys, xs = #[.iface t x, .func (.func g) #[] ys] ∧ RV w base M H G y x ∧ RVL w base M H G caps ys.toList := by
  generalize hl : xs.toList = l at h
  cases h with
  | cons a h =>
    cases h with
    | cons b h =>
      cases h
      cases a with
      | ifc a =>
        cases b with
        | clo b => exact ⟨_, _, by apply Array.ext'; exact hl, a, b⟩

theorem runFn_none {P : Program} {env : Env} {F : AFn} {args : List V} {H H' : Heap} {v : V} (hr : F.res = []) (h : runFn P env F args H = some (v, H')) : v = .tup [] := by
  unfold runFn at h
  split at h
  · obtain ⟨p, h1, h2⟩ := Option.bind_eq_some_iff.1 h
    rw [hr] at h2
    have e : ∀ st, retV st [] = some (.tup []) := fun st => rfl
    split at h2
    · cases h2
    · rw [e] at h2
      cases h2
      rfl
  · cases h

theorem sliceFn_ok {P : Program} {ρ : Ren} (L : Go.Proofs.LaysGg.n6 P ρ) (t e : TypeId) (i ie : TypeInfo) (hi : P.info? t = some i) (hd : i.desc = .slice e) (hpk : P.packed t = false) (hie : P.info? e = some ie) (ke : Nat) (hke : ∀ w, (Extern.Rtype.kind e).run P w = .ok ke w)
    (fW : Nat) (hf : ∀ n, ∃ f, P.funcs.findIdx? (·.name == "internal/reflectlite" ++ ".Swapper$" ++ toString (Lib.swapperK n ie ke)) = some f)
    (hfW : ∀ n, 2 ≤ n → P.funcs.findIdx? (·.name == "internal/reflectlite" ++ ".Swapper$" ++ toString (Lib.swapperK n ie ke)) = some fW)
    (hcall : callable P (ρ.f 6) = true) {base : Env} {T : Nat → Option AFn} {md : Modes} {pd : AFn} (hE : ∀ n, EnvOK P (envN P base T n)) (hc : compFn P (fun _ => false) md (ρ.f 14) = some pd) (hres : pd.res = []) (z : Nat) :
    FunOK P (ρ.f 6) (sliceFn P base T pd t z fW (typeHandle P e)) := by
  intro slot args H v H' hg
  refine .inl ⟨hcall, ?_⟩
  unfold sliceFn at hg
  split at hg
  case h_2 => cases hg
  rename_i t' b g z' len gid caps
  split at hg
  case isFalse => cases hg
  rename_i ht
  obtain ⟨rfl, rfl⟩ := ht
  intro base0 X w G xs hS hl
  obtain ⟨x, ys, rfl, hx, hy⟩ := args2 hl
  obtain ⟨p, cap, rfl⟩ : ∃ p cap, x = .slice p len cap := by
    rcases rv_hslz hx with ⟨a, cap, rfl, _⟩ | ⟨rfl, h0⟩
    · exact ⟨_, _, rfl⟩
    · exact ⟨none, 0, by rw [h0]⟩
  split at hg
  · rename_i h1
    simp only [Option.some.injEq, Prod.mk.injEq] at hg
    obtain ⟨rfl, rfl⟩ := hg
    obtain ⟨f, hf⟩ := hf len
    refine (Go.Proofs.Any.sort_Slice_tiny L t' e i ie hi hd hpk hie ke hke p len cap h1 f hf (.func gid) #[] ys w).mono ?_
    rintro e w' ⟨rfl, os, rfl⟩
    have hk : ∀ k, k < w.heap.size → (grow w os).heap[k]? = w.heap[k]? := fun k hk => heap_grow_old _ _ hk
    have hE2 := Ext.quiet hS (w' := grow w os) rfl rfl rfl (by simp [grow]) hk
    exact ⟨_, G, rfl, hE2, hS.quiet hE2 hk, .tup .nil⟩
  · rename_i h1
    split at hg
    case isFalse => cases hg
    rename_i h2
    obtain rfl := runFn_none hres hg
    have hF := fn_ok (hE _) (fun f hf => by cases hf) hc hg
    have hB : Go.Proofs.sliceBound P e ie ke p len cap = #[.slice p len cap, typeHandle P e] := by
      unfold Go.Proofs.sliceBound; rw [if_neg (Go.Proofs.swapperK_gt _ _ _ (by omega))]
    have hW : ∃ os0, Go.Proofs.sliceWorld P ρ t' p len cap w = grow w os0 := by
      unfold Go.Proofs.sliceWorld; rw [alloc_eq_grow, alloc_eq_grow, grow_grow]; exact ⟨_, rfl⟩
    obtain ⟨os0, hW⟩ := hW
    have hk : ∀ k, k < w.heap.size → (grow w os0).heap[k]? = w.heap[k]? := fun k hk => heap_grow_old _ _ hk
    have hE2 := Ext.quiet hS (w' := grow w os0) rfl rfl rfl (by simp [grow]) hk
    have hS2 := hS.quiet hE2 hk
    have hC := hF base0 X (grow w os0) G #[.agg #[.func (.func gid) #[] ys, .func (.func fW) #[] #[.slice p len cap, typeHandle P e]], .int .i64 0, .int .i64 len, .int .i64 (Lib.bitLen len)] hS2
      (.cons (.agg (.cons (.clo (RVL.ext hE2 hy)) (.cons (.clo (.cons (RV.ext hE2 hx) (.cons (.kv rfl) .nil))) .nil))) (.cons (.i (.s rfl)) (.cons (.i (.s rfl)) (.cons (.i (.s rfl)) .nil))))
    refine (Go.Proofs.Any.sort_Slice_of_pdq L t' e i ie hi hd hpk hie ke hke p len cap h2 fW (hfW len (by omega)) (.func gid) #[] ys w (fun w' => ∃ G', Ext (grow w os0) H G w' H' G' ∧ SimH base0 X w' H' G') ?_).mono ?_
    · rw [hB, hW]
      refine hC.mono ?_
      rintro e w' ⟨x, G', rfl, q1, q2, q3⟩
      refine ⟨?_, G', q1, q2⟩
      cases q3 with
      | tup q3 =>
        rename_i xs
        have : xs = #[] := by
          apply Array.ext'
          generalize xs.toList = l at q3
          cases q3
          rfl
        rw [this]
    · rintro e w' ⟨rfl, G', q1, q2⟩
      exact ⟨_, G', rfl, hE2.trans q1, q2, .tup .nil⟩
end Go.AM

set_option linter.unusedVariables false
set_option linter.unusedSimpArgs false
namespace Go.AM
open Go.Sort

/-- Structs of scalars. -/
structure Scal (α : Type) [Pic α] where
  encS : α → List Value
  hE : ∀ x, cellsV x = (encS x).map sV
  hz : ∀ x, (encS x).length = Pic.z α
  hp : ∀ x, (encS x).all plain = true
  z0 : 0 < Pic.z α

theorem flat_get {α : Type} {f : α → List Value} {z : Nat} (hz : ∀ x, (f x).length = z) : ∀ (l : List α) (i c : Nat), c < z → (l.flatMap f)[i * z + c]? = (l[i]?).bind fun x => (f x)[c]?
  | [], i, c, hc => by simp
  | x :: l, 0, c, hc => by
    rw [List.flatMap_cons, Nat.zero_mul, Nat.zero_add, List.getElem?_append_left (by rw [hz]; exact hc)]
    rfl
  | x :: l, i + 1, c, hc => by
    rw [List.flatMap_cons, List.getElem?_append_right (by rw [hz, Nat.add_mul, Nat.one_mul]; omega), hz, show (i + 1) * z + c - z = i * z + c by rw [Nat.add_mul, Nat.one_mul]; omega, flat_get hz l i c hc]
    rfl
theorem flat_len {α : Type} {f : α → List Value} {z : Nat} (hz : ∀ x, (f x).length = z) : ∀ (l : List α), (l.flatMap f).length = l.length * z
  | [] => by simp
  | x :: l => by rw [List.flatMap_cons, List.length_append, hz, flat_len hz l, List.length_cons, Nat.add_mul, Nat.one_mul, Nat.add_comm]

theorem flat_flatK {α : Type} [Inhabited α] {f : α → List Value} {z : Nat} (hz : ∀ x, (f x).length = z) (h0 : 0 < z) (A : Array α) : A.toList.flatMap f = (flatK f z A).toList := by
  apply List.ext_getElem?
  intro t
  by_cases ht : t < A.size * z
  · have h1 : t / z < A.size := (Nat.div_lt_iff_lt_mul h0).2 ht
    have h2 : t % z < z := Nat.mod_lt _ h0
    have h3 := flat_get hz A.toList (t / z) (t % z) h2
    rw [Nat.div_add_mod' t z] at h3
    rw [h3]
    simp only [Array.getElem?_toList]
    have h4 : t < (flatK f z A).size := by rw [size_flatK]; exact ht
    have h5 := get_flatK f z A t ht
    rw [getElem!_pos _ t h4] at h5
    rw [Array.getElem?_eq_getElem h4, h5]
    have h6 : t % z < (f A[t / z]!).length := by rw [hz]; exact h2
    rw [getElem!_pos (f A[t / z]!) (t % z) h6]
    rw [Array.getElem?_eq_getElem h1, Option.bind_some, ← getElem!_pos A (t / z) h1, List.getElem?_eq_getElem h6]
  · rw [List.getElem?_eq_none (by rw [flat_len hz, Array.length_toList]; omega), List.getElem?_eq_none (by rw [Array.length_toList, size_flatK]; omega)]

theorem rowAt_flat {α : Type} [Inhabited α] {f : α → List Value} {z : Nat} (hz : ∀ x, (f x).length = z) (A : Array α) {i : Nat} (hi : i < A.size) : rowAt z i (A.toList.flatMap f) = f A[i]! := by
  apply List.ext_getElem?
  intro c
  unfold rowAt
  by_cases hc : c < z
  · rw [List.getElem?_take_of_lt hc, List.getElem?_drop, flat_get hz A.toList i c hc, Array.getElem?_toList, Array.getElem?_eq_getElem hi, getElem!_pos A i hi]
    rfl
  · rw [List.getElem?_take, if_neg hc, List.getElem?_eq_none (by rw [hz]; omega)]

theorem swapVs_flat {α : Type} [Inhabited α] {f : α → List Value} {z : Nat} (hz : ∀ x, (f x).length = z) (h0 : 0 < z) (A : Array α) {i j : Nat} (hi : i < A.size) (hj : j < A.size) : (swapVs z (A.toList.flatMap f) i j).toList = (swp A i j).toList.flatMap f := by
  unfold swapVs
  rw [rowAt_flat hz A hi, rowAt_flat hz A hj, flat_flatK hz h0 A, flat_flatK hz h0 (swp A i j), ← setMany_swp f z hz A i j hi hj]

theorem rows_flat {α : Type} [Pic α] (S : Scal α) : ∀ (l : List α), rows l = (l.flatMap S.encS).map sV
  | [] => rfl
  | x :: l => by
    show cellsV x ++ rows l = _
    rw [rows_flat S l, S.hE, List.flatMap_cons, List.map_append]
theorem scal_sV : ∀ (vs : List Value), (vs.map sV).mapM scal = some vs
  | [] => rfl
  | v :: vs => by
    rw [List.map_cons, List.mapM_cons, scal_sV vs]
    rfl
theorem flat_plain {α : Type} [Pic α] (S : Scal α) (l : List α) : (l.flatMap S.encS).all plain = true := by
  rw [List.all_flatMap, List.all_eq_true]
  intro x _
  exact S.hp x

/-- The list in order, as Go's own sort has it. -/
def sortL {α : Type} [Inhabited α] (lt : α → α → Bool) (xs : List α) : List α := if xs.length ≤ 1 then xs else (pdq lt xs.toArray 0 xs.length (Lib.bitLen xs.length) true true).toList

theorem extract_all {α : Type} {d : Array α} {n : Nat} (h : n = d.size) : (d.extract 0 n).toList = d.toList := by
  subst h; simp

theorem sortL_perm {α : Type} [Inhabited α] {lt : α → α → Bool} (hO : SWO lt) (xs : List α) : (sortL lt xs).Perm xs := by
  unfold sortL
  split
  · exact List.Perm.refl _
  · have h := (pdq_sorts lt hO xs.toArray 0 xs.length (Lib.bitLen xs.length) true true (Nat.zero_le _) (by simp) (Or.inl rfl)).1
    have h2 := h.2.2
    rw [extract_all (by rw [h.1]; simp), extract_all (by simp)] at h2
    simpa using h2
theorem sortL_sorted {α : Type} [Inhabited α] {lt : α → α → Bool} (hO : SWO lt) (xs : List α) : (sortL lt xs).Pairwise fun x y => lt y x = false := by
  unfold sortL
  split
  · rename_i h
    match xs, h with
    | [], _ => exact List.Pairwise.nil
    | [x], _ => exact List.pairwise_singleton _ _
  · have h := pdq_sorts lt hO xs.toArray 0 xs.length (Lib.bitLen xs.length) true true (Nat.zero_le _) (by simp) (Or.inl rfl)
    have hs := h.1.1
    have h2 := h.2
    generalize pdq lt xs.toArray 0 xs.length (Lib.bitLen xs.length) true true = d at hs h2
    rw [List.pairwise_iff_getElem]
    intro i j hi hj hij
    have hi' : i < d.size := by simpa using hi
    have hj' : j < d.size := by simpa using hj
    have := h2 i j (Nat.zero_le _) hij (by simp at hs; omega)
    rw [getElem!_pos d i hi', getElem!_pos d j hj'] at this
    simpa using this
theorem sortL_len {α : Type} [Inhabited α] {lt : α → α → Bool} (hO : SWO lt) (xs : List α) : (sortL lt xs).length = xs.length := (sortL_perm hO xs).length_eq

section
variable {α : Type} [Pic α] [Inhabited α]
/-- A row that the sort may turn, all below it standing still. -/
structure RowH (b len : Nat) (H0 H : Heap) (A : Array α) : Prop where
  size : A.size = len
  le : H0.length ≤ H.length
  row : H[b]? = some (.cells (rows A.toList))
  keep : ∀ x, x < H0.length → x ≠ b → H[x]? = H0[x]?

def rowLS {base : Env} (S : Scal α) (gid fW b c len : Nat) (hd : Value) (lt : α → α → Bool) (H0 : Heap) (hs : base (2 * fW) = swapFn (Pic.z α) hd)
    (hl : ∀ (H : Heap) (A : Array α), H[b]? = some (.cells (rows A.toList)) → H[c]? = some (.cells [.hsl b (len * Pic.z α) 0 (Pic.z α) true len]) → A.size = len → ∀ i j : Nat, i < len → j < len → base (2 * gid) none [nV i, nV j, .ptr c 1 0] H = some (bV (lt A[i]! A[j]!), H))
    (hb : b < H0.length) (hbc : c ≠ b) (hc : H0[c]? = some (.cells [.hsl b (len * Pic.z α) 0 (Pic.z α) true len])) (hlen : len < 4611686018427387904) : LS base α where
  less := .clo gid [.ptr c 1 0]
  swap := .clo fW [.hsl b (len * Pic.z α) 0 (Pic.z α) true len, .kv hd]
  lt := lt
  n := H0.length
  sz := len
  Lh := RowH b len H0
  low h := h.le
  size h := h.size
  big := hlen
  oneL := rfl
  oneS := rfl
  nilL := rfl
  nilS := rfl
  same h h1 h2 := ⟨h.size, Nat.le_trans h.le h1, (h2 b hb).trans h.row, fun x hx hn => (h2 x hx).trans (h.keep x hx hn)⟩
  lessW {H A} h i j hi hj := by
    have hcl : c < H0.length := (List.getElem?_eq_some_iff.1 hc).1
    exact hl H A h.row ((h.keep c hcl hbc).trans hc) h.size i j hi hj
  swapW {H A} h i j hi hj := by
    have hbl : b < H.length := (List.getElem?_eq_some_iff.1 h.row).1
    have hg : getCells H b (len * Pic.z α) = some (rows A.toList) := by
      unfold getCells
      rw [h.row]
      simp [rows_len, h.size]
    have hA := h.size
    refine ⟨H.set b (.cells (rows (swp A i j).toList)), ?_, ⟨by rw [size_swp]; exact h.size, by rw [List.length_set]; exact h.le, List.getElem?_set_self hbl, fun x hx hn => by rw [List.getElem?_set_ne (Ne.symm hn)]; exact h.keep x hx hn⟩, ⟨by rw [List.length_set]; exact Nat.le_refl _, fun x h1 h2 => List.getElem?_set_ne (by omega)⟩⟩
    show base (2 * fW) none [nV i, nV j, .hsl b (len * Pic.z α) 0 (Pic.z α) true len, .kv hd] H = _
    rw [hs]
    simp only [swapFn]
    rw [if_pos ⟨trivial, trivial, S.z0, trivial, by omega, by omega, by omega, by omega⟩, hg, Option.bind_some, rows_flat S, scal_sV, Option.bind_some, if_pos (flat_plain S _)]
    simp only [Int.toNat_natCast]
    rw [swapVs_flat S.hz S.z0 A (by omega) (by omega), ← rows_flat S]

theorem sort_rows {P : Program} {base : Env} {T : Nat → Option AFn} {fI fH fB fC fR fP fE fT fS fD fO fM fA fX fN : Nat} (t : SortT T fI fH fB fC fR fP fE fT fS fD fO fM fA fX fN) (kn : ∀ (h : Heap) (l : Nat), l < 4611686018427387904 → base (2 * fN) none [nV l] h = some (uV (1 <<< bitsLen l), h))
    (S : Scal α) {gid fW b c tid : Nat} {hd : Value} {lt : α → α → Bool} {H0 : Heap} {xs : List α} (hs : base (2 * fW) = swapFn (Pic.z α) hd)
    (hl : ∀ (H : Heap) (A : Array α), H[b]? = some (.cells (rows A.toList)) → H[c]? = some (.cells [.hsl b (xs.length * Pic.z α) 0 (Pic.z α) true xs.length]) → A.size = xs.length → ∀ i j : Nat, i < xs.length → j < xs.length → base (2 * gid) none [nV i, nV j, .ptr c 1 0] H = some (bV (lt A[i]! A[j]!), H))
    (hb : H0[b]? = some (.cells (rows xs))) (hbc : c ≠ b) (hc : H0[c]? = some (.cells [.hsl b (xs.length * Pic.z α) 0 (Pic.z α) true xs.length])) (hlen : xs.length < 4611686018427387904) :
    ∃ h', sliceFn P base T (c_sort_pdqsort_func fI fH fB fC fR fP fE fT fS) tid (Pic.z α) fW hd none [.ifc tid (.hsl b (xs.length * Pic.z α) 0 (Pic.z α) true xs.length), .clo gid [.ptr c 1 0]] H0 = some (.tup [], h') ∧
      h'[b]? = some (.cells (rows (sortL lt xs))) ∧ Keep [b] H0 h' := by
  simp only [sliceFn]
  rw [if_pos ⟨trivial, trivial⟩]
  unfold sortL
  by_cases h1 : xs.length ≤ 1
  · rw [if_pos h1, if_pos h1]
    exact ⟨H0, rfl, hb, Nat.le_refl _, fun _ _ _ => rfl⟩
  · rw [if_neg h1, if_neg h1, if_pos hlen]
    have hbl : b < H0.length := (List.getElem?_eq_some_iff.1 hb).1
    have hlim : Lib.bitLen xs.length < 4611686018427387904 := Nat.lt_of_le_of_lt (Lib.bitLen_le xs.length 62 (by omega) (by omega)) (by omega)
    obtain ⟨h', e1, e2, e3⟩ := pdq_all (P := P) t (rowLS S gid fW b c xs.length hd lt H0 hs hl hbl hbc hc hlen) kn xs.length xs.length (Nat.le_refl _) (H := H0) (A := xs.toArray)
      (show RowH b xs.length H0 H0 xs.toArray from ⟨by simp, Nat.le_refl _, by simpa using hb, fun _ _ _ => rfl⟩) 0 xs.length (Lib.bitLen xs.length) (Nat.zero_le _) (Nat.le_refl _) (by omega) hlim
    have e2' : RowH b xs.length H0 h' (pdq lt xs.toArray 0 xs.length (Lib.bitLen xs.length) true true) := e2
    rw [envN_odd t.tS] at e1
    exact ⟨h', e1, e2'.row, e2'.le, fun x hx hn => e2'.keep x hx (by simpa using hn)⟩
end
end Go.AM

set_option linter.unusedVariables false
set_option linter.unusedSimpArgs false
set_option maxRecDepth 20000
namespace Go.AM
open Pic (enc dec dec_enc dec_sub)
open PicA (encA decA decA_encA decA_sub)
noncomputable def p_spec_StampOK (x0 : TStamp) : Option Bool :=
  if (decide (1 ≤ x0.time)) = true then
    if (decide (x0.time ≤ 1000000000000)) = true then
      if (decide (0 ≤ x0.actor)) = true then
        some (decide (x0.actor < 16))
      else
        some false
    else
      some false
  else
    some false
def c_spec_StampOK : AFn := ⟨21, (.seq (.ops [(qS 1 (.box (.tmp 0))), (qS 2 (.mv (.const (.bool false))))]) (.seq (.ops [(qS 3 (.fieldA 0 (.tmp 1))), (qS 4 (.load 1 false (.tmp 3))), (qS 5 (.pu (.n (.ar .geq)) [(.tmp 4), (ic 1)])), (qS 6 (.mv (.tmp 5))), ⟨(.some 7), (.fieldA 0 (.tmp 1)), (.some (6, true)), [], .none⟩, ⟨(.some 8), (.load 1 false (.tmp 7)), (.some (6, true)), [], .none⟩, ⟨(.some 9), (.pu (.n (.ar .leq)) [(.tmp 8), (ic 1000000000000)]), (.some (6, true)), [], .none⟩, (qS 10 (.pick (.tmp 6) (.tmp 9) (.const (.bool false)))), (qS 11 (.mv (.tmp 10))), ⟨(.some 12), (.fieldA 1 (.tmp 1)), (.some (11, true)), [], .none⟩, ⟨(.some 13), (.load 1 false (.tmp 12)), (.some (11, true)), [], .none⟩, ⟨(.some 14), (.pu (.n (.ar .geq)) [(.tmp 13), (ic 0)]), (.some (11, true)), [], .none⟩, (qS 15 (.pick (.tmp 11) (.tmp 14) (.const (.bool false)))), (qS 16 (.mv (.tmp 15))), ⟨(.some 17), (.fieldA 1 (.tmp 1)), (.some (16, true)), [], .none⟩, ⟨(.some 18), (.load 1 false (.tmp 17)), (.some (16, true)), [], .none⟩, ⟨(.some 19), (.pu (.n (.ar .lss)) [(.tmp 18), (ic 16)]), (.some (16, true)), [], .none⟩, (qS 20 (.pick (.tmp 16) (.tmp 19) (.const (.bool false)))), (qS 2 (.mv (.tmp 20)))]) .ret)), [(.tmp 2)]⟩
set_option maxHeartbeats 10000000 in
theorem d_spec_StampOK {P : Program} {env : Env}  (x0 : TStamp) {b : Bool} (hp : p_spec_StampOK x0 = some b) : R P env (c_spec_StampOK) ((encA (x0)).map ofI) [] (Tells true b) := by
  refine R_of (by simp [c_spec_StampOK, encA]) ?_
  unfold c_spec_StampOK
  unfold p_spec_StampOK at hp
  by_cases hb0 : (decide (1 ≤ x0.time)) = true
  · rw [if_t hb0] at hp
    by_cases hb1 : (decide (x0.time ≤ 1000000000000)) = true
    · rw [if_t hb1] at hp
      by_cases hb2 : (decide (0 ≤ x0.actor)) = true
      · rw [if_t hb2] at hp
        have hp := Option.some.inj hp
        subst hp
        simp (maxSteps := 2000000) (disch := first|omega|(simp only[ls];first|done|omega)) only [hb0, hb1, hb2, gm]
      · replace hb2 := eq_false_of_ne_true hb2
        rw [if_f hb2] at hp
        have hp := Option.some.inj hp
        subst hp
        simp (maxSteps := 2000000) (disch := first|omega|(simp only[ls];first|done|omega)) only [hb0, hb1, hb2, gm]
    · replace hb1 := eq_false_of_ne_true hb1
      rw [if_f hb1] at hp
      have hp := Option.some.inj hp
      subst hp
      simp (maxSteps := 2000000) (disch := first|omega|(simp only[ls];first|done|omega)) only [hb0, hb1, gm]
  · replace hb0 := eq_false_of_ne_true hb0
    rw [if_f hb0] at hp
    have hp := Option.some.inj hp
    subst hp
    simp (maxSteps := 2000000) (disch := first|omega|(simp only[ls];first|done|omega)) only [hb0, gm]

noncomputable def p_spec_StampLess (x0 : TStamp) (x1 : TStamp) : Option Bool :=
  if (decide (x0.time < x1.time)) = true then
    some true
  else
    if (decide (x0.time = x1.time)) = true then
      some (decide (x0.actor < x1.actor))
    else
      some false
def c_spec_StampLess : AFn := ⟨24, (.seq (.ops [(qS 2 (.box (.tmp 0))), (qS 3 (.box (.tmp 1))), (qS 4 (.mv (.const (.bool false))))]) (.seq (.ops [(qS 5 (.fieldA 0 (.tmp 2))), (qS 6 (.load 1 false (.tmp 5))), (qS 7 (.fieldA 0 (.tmp 3))), (qS 8 (.load 1 false (.tmp 7))), (qS 9 (.pu (.n (.ar .lss)) [(.tmp 6), (.tmp 8)])), (qS 10 (.mv (.tmp 9))), ⟨(.some 11), (.fieldA 0 (.tmp 2)), (.some (10, false)), [], .none⟩, ⟨(.some 12), (.load 1 false (.tmp 11)), (.some (10, false)), [], .none⟩, ⟨(.some 13), (.fieldA 0 (.tmp 3)), (.some (10, false)), [], .none⟩, ⟨(.some 14), (.load 1 false (.tmp 13)), (.some (10, false)), [], .none⟩, ⟨(.some 15), (.pu (.n (.ar .eql)) [(.tmp 12), (.tmp 14)]), (.some (10, false)), [], .none⟩, ⟨(.some 16), (.mv (.tmp 15)), (.some (10, false)), [], .none⟩, ⟨(.some 17), (.fieldA 1 (.tmp 2)), (.some (16, true)), [], .none⟩, ⟨(.some 18), (.load 1 false (.tmp 17)), (.some (16, true)), [], .none⟩, ⟨(.some 19), (.fieldA 1 (.tmp 3)), (.some (16, true)), [], .none⟩, ⟨(.some 20), (.load 1 false (.tmp 19)), (.some (16, true)), [], .none⟩, ⟨(.some 21), (.pu (.n (.ar .lss)) [(.tmp 18), (.tmp 20)]), (.some (16, true)), [], .none⟩, ⟨(.some 22), (.pick (.tmp 16) (.tmp 21) (.const (.bool false))), (.some (10, false)), [], .none⟩, (qS 23 (.pick (.tmp 10) (.const (.bool true)) (.tmp 22))), (qS 4 (.mv (.tmp 23)))]) .ret)), [(.tmp 4)]⟩
set_option maxHeartbeats 10000000 in
theorem d_spec_StampLess {P : Program} {env : Env}  (x0 : TStamp) (x1 : TStamp) {b : Bool} (hp : p_spec_StampLess x0 x1 = some b) : R P env (c_spec_StampLess) ((encA (x0, x1)).map ofI) [] (Tells true b) := by
  refine R_of (by simp [c_spec_StampLess, encA]) ?_
  unfold c_spec_StampLess
  unfold p_spec_StampLess at hp
  by_cases hb0 : (decide (x0.time < x1.time)) = true
  · rw [if_t hb0] at hp
    have hp := Option.some.inj hp
    subst hp
    simp (maxSteps := 2000000) (disch := first|omega|(simp only[ls];first|done|omega)) only [hb0, gm]
  · replace hb0 := eq_false_of_ne_true hb0
    rw [if_f hb0] at hp
    by_cases hb1 : (decide (x0.time = x1.time)) = true
    · rw [if_t hb1] at hp
      have hp := Option.some.inj hp
      subst hp
      simp (maxSteps := 2000000) (disch := first|omega|(simp only[ls];first|done|omega)) only [hb0, hb1, gm]
    · replace hb1 := eq_false_of_ne_true hb1
      rw [if_f hb1] at hp
      have hp := Option.some.inj hp
      subst hp
      simp (maxSteps := 2000000) (disch := first|omega|(simp only[ls];first|done|omega)) only [hb0, hb1, gm]

noncomputable def p_spec_l06OpOK (x0 : TMove) : Option Bool :=
  (p_spec_StampOK x0.id).bind fun v0 =>
  if (v0) = true then
    if (decide (1 ≤ x0.node)) = true then
      if (decide (x0.node ≤ 1000)) = true then
        if (decide ((-1) ≤ x0.parent)) = true then
          if (decide (x0.parent ≤ 1000)) = true then
            some (decide ((x0.name.size : Int) ≤ 200))
          else
            some false
        else
          some false
      else
        some false
    else
      some false
  else
    some false
def c_spec_l06OpOK (f_spec_StampOK : Nat) : AFn := ⟨32, (.seq (.ops [(qS 1 (.box (.tmp 0))), (qS 2 (.mv (.const (.bool false))))]) (.seq (.ops [(qS 3 (.fieldA 0 (.tmp 1))), (qS 4 (.load 2 true (.tmp 3))), (qS 5 (.call (2 * f_spec_StampOK) [(.tmp 4)])), (qS 6 (.mv (.tmp 5))), ⟨(.some 7), (.fieldA 2 (.tmp 1)), (.some (6, true)), [], .none⟩, ⟨(.some 8), (.load 1 false (.tmp 7)), (.some (6, true)), [], .none⟩, ⟨(.some 9), (.pu (.n (.ar .geq)) [(.tmp 8), (ic 1)]), (.some (6, true)), [], .none⟩, (qS 10 (.pick (.tmp 6) (.tmp 9) (.const (.bool false)))), (qS 11 (.mv (.tmp 10))), ⟨(.some 12), (.fieldA 2 (.tmp 1)), (.some (11, true)), [], .none⟩, ⟨(.some 13), (.load 1 false (.tmp 12)), (.some (11, true)), [], .none⟩, ⟨(.some 14), (.pu (.n (.ar .leq)) [(.tmp 13), (ic 1000)]), (.some (11, true)), [], .none⟩, (qS 15 (.pick (.tmp 11) (.tmp 14) (.const (.bool false)))), (qS 16 (.mv (.tmp 15))), ⟨(.some 17), (.fieldA 3 (.tmp 1)), (.some (16, true)), [], .none⟩, ⟨(.some 18), (.load 1 false (.tmp 17)), (.some (16, true)), [], .none⟩, ⟨(.some 19), (.pu (.n (.ar .geq)) [(.tmp 18), (ic (-1))]), (.some (16, true)), [], .none⟩, (qS 20 (.pick (.tmp 16) (.tmp 19) (.const (.bool false)))), (qS 21 (.mv (.tmp 20))), ⟨(.some 22), (.fieldA 3 (.tmp 1)), (.some (21, true)), [], .none⟩, ⟨(.some 23), (.load 1 false (.tmp 22)), (.some (21, true)), [], .none⟩, ⟨(.some 24), (.pu (.n (.ar .leq)) [(.tmp 23), (ic 1000)]), (.some (21, true)), [], .none⟩, (qS 25 (.pick (.tmp 21) (.tmp 24) (.const (.bool false)))), (qS 26 (.mv (.tmp 25))), ⟨(.some 27), (.fieldA 4 (.tmp 1)), (.some (26, true)), [], .none⟩, ⟨(.some 28), (.load 1 false (.tmp 27)), (.some (26, true)), [], .none⟩, ⟨(.some 29), (.pu (.n .len) [(.tmp 28)]), (.some (26, true)), [], .none⟩, ⟨(.some 30), (.pu (.n (.ar .leq)) [(.tmp 29), (ic 200)]), (.some (26, true)), [], .none⟩, (qS 31 (.pick (.tmp 26) (.tmp 30) (.const (.bool false)))), (qS 2 (.mv (.tmp 31)))]) .ret)), [(.tmp 2)]⟩
set_option maxHeartbeats 10000000 in
theorem d_spec_l06OpOK {P : Program} {env : Env} {f_spec_StampOK : Nat}  (ep_spec_StampOK : env (2 * f_spec_StampOK) = pureFn true (FA fun a : TStamp => p_spec_StampOK a)) (x0 : TMove) {b : Bool} (hp : p_spec_l06OpOK x0 = some b) : R P env (c_spec_l06OpOK f_spec_StampOK) ((encA (x0)).map ofI) [] (Tells true b) := by
  refine R_of (by simp [c_spec_l06OpOK, encA]) ?_
  have E := ep_spec_StampOK
  unfold c_spec_l06OpOK
  unfold p_spec_l06OpOK at hp
  obtain ⟨v0, hv0, hp⟩ := bind_eq hp
  by_cases hb1 : (v0) = true
  · rw [if_t hb1] at hp
    by_cases hb2 : (decide (1 ≤ x0.node)) = true
    · rw [if_t hb2] at hp
      by_cases hb3 : (decide (x0.node ≤ 1000)) = true
      · rw [if_t hb3] at hp
        by_cases hb4 : (decide ((-1) ≤ x0.parent)) = true
        · rw [if_t hb4] at hp
          by_cases hb5 : (decide (x0.parent ≤ 1000)) = true
          · rw [if_t hb5] at hp
            have hp := Option.some.inj hp
            subst hp
            simp (maxSteps := 2000000) (disch := first|omega|(simp only[ls];first|done|omega)) only [E, hv0, hb1, hb2, hb3, hb4, hb5, gm]
          · replace hb5 := eq_false_of_ne_true hb5
            rw [if_f hb5] at hp
            have hp := Option.some.inj hp
            subst hp
            simp (maxSteps := 2000000) (disch := first|omega|(simp only[ls];first|done|omega)) only [E, hv0, hb1, hb2, hb3, hb4, hb5, gm]
        · replace hb4 := eq_false_of_ne_true hb4
          rw [if_f hb4] at hp
          have hp := Option.some.inj hp
          subst hp
          simp (maxSteps := 2000000) (disch := first|omega|(simp only[ls];first|done|omega)) only [E, hv0, hb1, hb2, hb3, hb4, gm]
      · replace hb3 := eq_false_of_ne_true hb3
        rw [if_f hb3] at hp
        have hp := Option.some.inj hp
        subst hp
        simp (maxSteps := 2000000) (disch := first|omega|(simp only[ls];first|done|omega)) only [E, hv0, hb1, hb2, hb3, gm]
    · replace hb2 := eq_false_of_ne_true hb2
      rw [if_f hb2] at hp
      have hp := Option.some.inj hp
      subst hp
      simp (maxSteps := 2000000) (disch := first|omega|(simp only[ls];first|done|omega)) only [E, hv0, hb1, hb2, gm]
  · replace hb1 := eq_false_of_ne_true hb1
    rw [if_f hb1] at hp
    have hp := Option.some.inj hp
    subst hp
    simp (maxSteps := 2000000) (disch := first|omega|(simp only[ls];first|done|omega)) only [E, hv0, hb1, gm]

noncomputable def p_impl_isActor (x0 : Int) : Option Bool :=
  if (decide (0 ≤ x0)) = true then
    some (decide (x0 < 16))
  else
    some false
def c_impl_isActor : AFn := ⟨9, (.seq (.ops [(qS 2 (.mv (.const (.bool false))))]) (.seq (.ops [(qS 3 (.mv (.tmp 0))), (qS 4 (.pu (.n (.ar .geq)) [(.tmp 3), (ic 0)])), (qS 5 (.mv (.tmp 4))), ⟨(.some 6), (.mv (.tmp 0)), (.some (5, true)), [], .none⟩, ⟨(.some 7), (.pu (.n (.ar .lss)) [(.tmp 6), (ic 16)]), (.some (5, true)), [], .none⟩, (qS 8 (.pick (.tmp 5) (.tmp 7) (.const (.bool false)))), (qS 2 (.mv (.tmp 8)))]) .ret)), [(.tmp 2)]⟩
set_option maxHeartbeats 10000000 in
theorem d_impl_isActor {P : Program} {env : Env}  (x0 : Int) {b : Bool} (hp : p_impl_isActor x0 = some b) : R P env (c_impl_isActor) ((encA (x0)).map ofI) [] (Tells true b) := by
  refine R_of (by simp [c_impl_isActor, encA]) ?_
  unfold c_impl_isActor
  unfold p_impl_isActor at hp
  by_cases hb0 : (decide (0 ≤ x0)) = true
  · rw [if_t hb0] at hp
    have hp := Option.some.inj hp
    subst hp
    simp (maxSteps := 2000000) (disch := first|omega|(simp only[ls];first|done|omega)) only [hb0, gm]
  · replace hb0 := eq_false_of_ne_true hb0
    rw [if_f hb0] at hp
    have hp := Option.some.inj hp
    subst hp
    simp (maxSteps := 2000000) (disch := first|omega|(simp only[ls];first|done|omega)) only [hb0, gm]

noncomputable def p_impl_StampOK (x0 : TStamp) : Option Bool :=
  if (decide (1 ≤ x0.time)) = true then
    if (decide (x0.time ≤ 1000000000000)) = true then
      (p_impl_isActor x0.actor).bind fun v2 =>
      some v2
    else
      some false
  else
    some false
def c_impl_StampOK (f_impl_isActor : Nat) : AFn := ⟨16, (.seq (.ops [(qS 1 (.box (.tmp 0))), (qS 2 (.mv (.const (.bool false))))]) (.seq (.ops [(qS 3 (.fieldA 0 (.tmp 1))), (qS 4 (.load 1 false (.tmp 3))), (qS 5 (.pu (.n (.ar .geq)) [(.tmp 4), (ic 1)])), (qS 6 (.mv (.tmp 5))), ⟨(.some 7), (.fieldA 0 (.tmp 1)), (.some (6, true)), [], .none⟩, ⟨(.some 8), (.load 1 false (.tmp 7)), (.some (6, true)), [], .none⟩, ⟨(.some 9), (.pu (.n (.ar .leq)) [(.tmp 8), (ic 1000000000000)]), (.some (6, true)), [], .none⟩, (qS 10 (.pick (.tmp 6) (.tmp 9) (.const (.bool false)))), (qS 11 (.mv (.tmp 10))), ⟨(.some 12), (.fieldA 1 (.tmp 1)), (.some (11, true)), [], .none⟩, ⟨(.some 13), (.load 1 false (.tmp 12)), (.some (11, true)), [], .none⟩, ⟨(.some 14), (.call (2 * f_impl_isActor) [(.tmp 13)]), (.some (11, true)), [], .none⟩, (qS 15 (.pick (.tmp 11) (.tmp 14) (.const (.bool false)))), (qS 2 (.mv (.tmp 15)))]) .ret)), [(.tmp 2)]⟩
set_option maxHeartbeats 10000000 in
theorem d_impl_StampOK {P : Program} {env : Env} {f_impl_isActor : Nat}  (ep_impl_isActor : env (2 * f_impl_isActor) = pureFn true (FA fun a : Int => p_impl_isActor a)) (x0 : TStamp) {b : Bool} (hp : p_impl_StampOK x0 = some b) : R P env (c_impl_StampOK f_impl_isActor) ((encA (x0)).map ofI) [] (Tells true b) := by
  refine R_of (by simp [c_impl_StampOK, encA]) ?_
  have E := ep_impl_isActor
  unfold c_impl_StampOK
  unfold p_impl_StampOK at hp
  by_cases hb0 : (decide (1 ≤ x0.time)) = true
  · rw [if_t hb0] at hp
    by_cases hb1 : (decide (x0.time ≤ 1000000000000)) = true
    · rw [if_t hb1] at hp
      obtain ⟨v2, hv2, hp⟩ := bind_eq hp
      have hp := Option.some.inj hp
      subst hp
      simp (maxSteps := 2000000) (disch := first|omega|(simp only[ls];first|done|omega)) only [E, hb0, hb1, hv2, gm]
    · replace hb1 := eq_false_of_ne_true hb1
      rw [if_f hb1] at hp
      have hp := Option.some.inj hp
      subst hp
      simp (maxSteps := 2000000) (disch := first|omega|(simp only[ls];first|done|omega)) only [E, hb0, hb1, gm]
  · replace hb0 := eq_false_of_ne_true hb0
    rw [if_f hb0] at hp
    have hp := Option.some.inj hp
    subst hp
    simp (maxSteps := 2000000) (disch := first|omega|(simp only[ls];first|done|omega)) only [E, hb0, gm]

noncomputable def p_impl_StampLess (x0 : TStamp) (x1 : TStamp) : Option Bool :=
  if (decide (x0.time = x1.time)) = true then
    some (decide (x0.actor < x1.actor))
  else
    some (decide (x0.time < x1.time))
def c_impl_StampLess : AFn := ⟨20, (.seq (.ops [(qS 2 (.box (.tmp 0))), (qS 3 (.box (.tmp 1))), (qS 4 (.mv (.const (.bool false))))]) (.seq (.seq (.ops [(qS 5 (.fieldA 0 (.tmp 2))), (qS 6 (.load 1 false (.tmp 5))), (qS 7 (.fieldA 0 (.tmp 3))), (qS 8 (.load 1 false (.tmp 7))), (qS 9 (.pu (.n (.ar .neq)) [(.tmp 6), (.tmp 8)]))]) (.cond (.tmp 9) (.seq (.ops [(qS 10 (.fieldA 0 (.tmp 2))), (qS 11 (.load 1 false (.tmp 10))), (qS 12 (.fieldA 0 (.tmp 3))), (qS 13 (.load 1 false (.tmp 12))), (qS 14 (.pu (.n (.ar .lss)) [(.tmp 11), (.tmp 13)])), (qS 4 (.mv (.tmp 14)))]) .ret) .skip)) (.seq (.ops [(qS 15 (.fieldA 1 (.tmp 2))), (qS 16 (.load 1 false (.tmp 15))), (qS 17 (.fieldA 1 (.tmp 3))), (qS 18 (.load 1 false (.tmp 17))), (qS 19 (.pu (.n (.ar .lss)) [(.tmp 16), (.tmp 18)])), (qS 4 (.mv (.tmp 19)))]) .ret))), [(.tmp 4)]⟩
set_option maxHeartbeats 10000000 in
theorem d_impl_StampLess {P : Program} {env : Env}  (x0 : TStamp) (x1 : TStamp) {b : Bool} (hp : p_impl_StampLess x0 x1 = some b) : R P env (c_impl_StampLess) ((encA (x0, x1)).map ofI) [] (Tells true b) := by
  refine R_of (by simp [c_impl_StampLess, encA]) ?_
  unfold c_impl_StampLess
  unfold p_impl_StampLess at hp
  by_cases hb0 : (decide (x0.time = x1.time)) = true
  · rw [if_t hb0] at hp
    have hp := Option.some.inj hp
    subst hp
    simp (maxSteps := 2000000) (disch := first|omega|(simp only[ls];first|done|omega)) only [hb0, gm]
  · replace hb0 := eq_false_of_ne_true hb0
    rw [if_f hb0] at hp
    have hp := Option.some.inj hp
    subst hp
    simp (maxSteps := 2000000) (disch := first|omega|(simp only[ls];first|done|omega)) only [hb0, gm]

noncomputable def p_impl_moveOK (x0 : TMove) : Option Bool :=
  if (decide (1 ≤ x0.node)) = true then
    if (decide (x0.node ≤ 1000)) = true then
      if (decide ((-1) ≤ x0.parent)) = true then
        if (decide (x0.parent ≤ 1000)) = true then
          some (decide ((x0.name.size : Int) ≤ 200))
        else
          some false
      else
        some false
    else
      some false
  else
    some false
def c_impl_moveOK : AFn := ⟨27, (.seq (.ops [(qS 1 (.box (.tmp 0))), (qS 2 (.mv (.const (.bool false))))]) (.seq (.ops [(qS 3 (.fieldA 2 (.tmp 1))), (qS 4 (.load 1 false (.tmp 3))), (qS 5 (.pu (.n (.ar .geq)) [(.tmp 4), (ic 1)])), (qS 6 (.mv (.tmp 5))), ⟨(.some 7), (.fieldA 2 (.tmp 1)), (.some (6, true)), [], .none⟩, ⟨(.some 8), (.load 1 false (.tmp 7)), (.some (6, true)), [], .none⟩, ⟨(.some 9), (.pu (.n (.ar .leq)) [(.tmp 8), (ic 1000)]), (.some (6, true)), [], .none⟩, (qS 10 (.pick (.tmp 6) (.tmp 9) (.const (.bool false)))), (qS 11 (.mv (.tmp 10))), ⟨(.some 12), (.fieldA 3 (.tmp 1)), (.some (11, true)), [], .none⟩, ⟨(.some 13), (.load 1 false (.tmp 12)), (.some (11, true)), [], .none⟩, ⟨(.some 14), (.pu (.n (.ar .geq)) [(.tmp 13), (ic (-1))]), (.some (11, true)), [], .none⟩, (qS 15 (.pick (.tmp 11) (.tmp 14) (.const (.bool false)))), (qS 16 (.mv (.tmp 15))), ⟨(.some 17), (.fieldA 3 (.tmp 1)), (.some (16, true)), [], .none⟩, ⟨(.some 18), (.load 1 false (.tmp 17)), (.some (16, true)), [], .none⟩, ⟨(.some 19), (.pu (.n (.ar .leq)) [(.tmp 18), (ic 1000)]), (.some (16, true)), [], .none⟩, (qS 20 (.pick (.tmp 16) (.tmp 19) (.const (.bool false)))), (qS 21 (.mv (.tmp 20))), ⟨(.some 22), (.fieldA 4 (.tmp 1)), (.some (21, true)), [], .none⟩, ⟨(.some 23), (.load 1 false (.tmp 22)), (.some (21, true)), [], .none⟩, ⟨(.some 24), (.pu (.n .len) [(.tmp 23)]), (.some (21, true)), [], .none⟩, ⟨(.some 25), (.pu (.n (.ar .leq)) [(.tmp 24), (ic 200)]), (.some (21, true)), [], .none⟩, (qS 26 (.pick (.tmp 21) (.tmp 25) (.const (.bool false)))), (qS 2 (.mv (.tmp 26)))]) .ret)), [(.tmp 2)]⟩
set_option maxHeartbeats 10000000 in
theorem d_impl_moveOK {P : Program} {env : Env}  (x0 : TMove) {b : Bool} (hp : p_impl_moveOK x0 = some b) : R P env (c_impl_moveOK) ((encA (x0)).map ofI) [] (Tells true b) := by
  refine R_of (by simp [c_impl_moveOK, encA]) ?_
  unfold c_impl_moveOK
  unfold p_impl_moveOK at hp
  by_cases hb0 : (decide (1 ≤ x0.node)) = true
  · rw [if_t hb0] at hp
    by_cases hb1 : (decide (x0.node ≤ 1000)) = true
    · rw [if_t hb1] at hp
      by_cases hb2 : (decide ((-1) ≤ x0.parent)) = true
      · rw [if_t hb2] at hp
        by_cases hb3 : (decide (x0.parent ≤ 1000)) = true
        · rw [if_t hb3] at hp
          have hp := Option.some.inj hp
          subst hp
          simp (maxSteps := 2000000) (disch := first|omega|(simp only[ls];first|done|omega)) only [hb0, hb1, hb2, hb3, gm]
        · replace hb3 := eq_false_of_ne_true hb3
          rw [if_f hb3] at hp
          have hp := Option.some.inj hp
          subst hp
          simp (maxSteps := 2000000) (disch := first|omega|(simp only[ls];first|done|omega)) only [hb0, hb1, hb2, hb3, gm]
      · replace hb2 := eq_false_of_ne_true hb2
        rw [if_f hb2] at hp
        have hp := Option.some.inj hp
        subst hp
        simp (maxSteps := 2000000) (disch := first|omega|(simp only[ls];first|done|omega)) only [hb0, hb1, hb2, gm]
    · replace hb1 := eq_false_of_ne_true hb1
      rw [if_f hb1] at hp
      have hp := Option.some.inj hp
      subst hp
      simp (maxSteps := 2000000) (disch := first|omega|(simp only[ls];first|done|omega)) only [hb0, hb1, gm]
  · replace hb0 := eq_false_of_ne_true hb0
    rw [if_f hb0] at hp
    have hp := Option.some.inj hp
    subst hp
    simp (maxSteps := 2000000) (disch := first|omega|(simp only[ls];first|done|omega)) only [hb0, gm]

end Go.AM

set_option linter.unusedVariables false
set_option linter.unusedSimpArgs false
namespace Go.AM
open Pic (enc dec dec_enc dec_sub)
open PicA (encA decA decA_encA decA_sub)

/-- A list behind a pointer. -/
structure PtrL (α : Type) where
  l : List α
def decPtrL {α : Type} [Pic α] : I → Option (PtrL α)
  | .ip [x] => (dec x).map PtrL.mk
  | _ => none
instance {α : Type} [Pic α] : Pic (PtrL α) where
  z := 1
  ag := false
  enc p := .ip [enc p.l]
  dec := decPtrL
  dec_enc x := by simp [decPtrL, dec_enc]
  len x := rfl
  pos := by decide
  one := .inr rfl
  row x := rfl
  dec_sub x a h := by
    unfold decPtrL at h
    split at h
    · obtain ⟨l, h1, rfl⟩ := Option.map_eq_some_iff.1 h
      exact .ip (.cons (dec_sub _ _ h1) .nil)
    · cases h

structure TForest where
  parent : List Int
  name : List ByteArray
  skipped : List TStamp
def decForest : I → Option TForest
  | .ip [x, y, z] => (dec x).bind fun a => (dec y).bind fun b => (dec z).map fun c => ⟨a, b, c⟩
  | _ => none
instance : Pic TForest where
  z := 1
  ag := false
  enc f := .ip [enc f.parent, enc f.name, enc f.skipped]
  dec := decForest
  dec_enc x := by simp [decForest, dec_enc]
  len x := rfl
  pos := by decide
  one := .inr rfl
  row x := rfl
  dec_sub x a h := by
    unfold decForest at h
    split at h
    · obtain ⟨p, h1, h⟩ := Option.bind_eq_some_iff.1 h
      obtain ⟨n, h2, h⟩ := Option.bind_eq_some_iff.1 h
      obtain ⟨s, h3, rfl⟩ := Option.map_eq_some_iff.1 h
      exact .ip (.cons (dec_sub _ _ h1) (.cons (dec_sub _ _ h2) (.cons (dec_sub _ _ h3) .nil)))
    · cases h

structure TTree where
  nodes : List TNode
  ops : List TMove
  skips : List TStamp
def treeK (ns : List TNode) : List I := ns.map fun n => .s (.int .i64 n.node)
def treeI (t : TTree) : I := .ip [.im (treeK t.nodes) (t.nodes.map enc), enc t.ops, enc t.skips]
def encTr : Option TTree → I
  | none => .s (.pointer none)
  | some t => treeI t
open Classical in
noncomputable def decNodes (ks vs : List I) : Option (List TNode) := if h : ∃ ns : List TNode, ks = treeK ns ∧ vs = ns.map enc then some h.choose else none
theorem encs_inj {α : Type} [Pic α] : ∀ {xs ys : List α}, xs.map enc = ys.map enc → xs = ys
  | [], [], _ => rfl
  | [], y :: ys, h => by cases h
  | x :: xs, [], h => by cases h
  | x :: xs, y :: ys, h => by
    simp only [List.map_cons, List.cons.injEq] at h
    have := congrArg (dec (α := α)) h.1
    rw [dec_enc, dec_enc] at this
    rw [Option.some.inj this, encs_inj h.2]
theorem decNodes_enc (ns : List TNode) : decNodes (treeK ns) (ns.map enc) = some ns := by
  have hx : ∃ ms : List TNode, treeK ns = treeK ms ∧ ns.map enc = ms.map enc := ⟨ns, rfl, rfl⟩
  unfold decNodes
  rw [dif_pos hx]
  exact congrArg some (encs_inj hx.choose_spec.2).symm
theorem decNodes_some {ks vs : List I} {ns : List TNode} (h : decNodes ks vs = some ns) : ks = treeK ns ∧ vs = ns.map enc := by
  unfold decNodes at h
  split at h
  · rename_i hx
    cases h
    exact hx.choose_spec
  · cases h
noncomputable def decTr : I → Option (Option TTree)
  | .s (.pointer none) => some none
  | .ip [.im ks vs, x, y] => (decNodes ks vs).bind fun ns => (dec x).bind fun o => (dec y).map fun s => some ⟨ns, o, s⟩
  | _ => none
noncomputable instance : Pic (Option TTree) where
  z := 1
  ag := false
  enc := encTr
  dec := decTr
  dec_enc x := by cases x <;> simp [encTr, treeI, decTr, decNodes_enc, dec_enc]
  len x := by cases x <;> rfl
  pos := by decide
  one := .inr rfl
  row x := by cases x <;> rfl
  dec_sub x a h := by
    unfold decTr at h
    split at h
    · cases h; exact .refl _
    · obtain ⟨p, h1, h⟩ := Option.bind_eq_some_iff.1 h
      obtain ⟨n, h2, h⟩ := Option.bind_eq_some_iff.1 h
      obtain ⟨s, h3, rfl⟩ := Option.map_eq_some_iff.1 h
      obtain ⟨rfl, rfl⟩ := decNodes_some h1
      exact .ip (.cons (.refl _) (.cons (dec_sub _ _ h2) (.cons (dec_sub _ _ h3) .nil)))
    · cases h

/-- Where a node is, if it is anywhere. -/
def findN (ns : List TNode) (k : Int) : Option TNode := ns.find? fun n => n.node == k
/-- A node put in its place. -/
def setN : List TNode → TNode → List TNode
  | [], x => [x]
  | n :: ns, x => if n.node = x.node then x :: ns else n :: setN ns x

theorem treeK_keys : ∀ (ns : List TNode), keysI false [.int .i64] (treeK ns) = some (ns.map fun n => [.int .i64 n.node])
  | ns => by
    have h : ∀ l : List TNode, (treeK l).mapM (keyI false) = some (l.map fun n => [.int .i64 n.node]) := by
      intro l
      induction l with
      | nil => rfl
      | cons n l ih =>
        show ((I.s (.int .i64 n.node)) :: treeK l).mapM (keyI false) = _
        rw [List.mapM_cons, ih]
        rfl
    unfold keysI
    rw [h]
    have h2 : (ns.map fun n => [Value.int .i64 n.node]).all (fitsL [.int .i64]) = true := by
      rw [List.all_eq_true]
      intro x hx
      obtain ⟨n, _, rfl⟩ := List.mem_map.1 hx
      rfl
    exact if_pos h2

theorem hit_cons (a c : List Value) (cs : List (List Value)) : hit a (c :: cs) = if eqL a c = true then some 0 else (hit a cs).map (· + 1) := rfl
theorem eq_keys {a b : Int} : eqL [Value.int .i64 a] [.int .i64 b] = decide (a = b) := by simp [eqL, eqV]

theorem hit_find : ∀ (ns : List TNode) (k : Int), (hit [.int .i64 k] (ns.map fun n => [.int .i64 n.node])).bind (fun j => ns[j]?) = findN ns k ∧ (hit [.int .i64 k] (ns.map fun n => [.int .i64 n.node])).isSome = (findN ns k).isSome
  | [], k => ⟨rfl, rfl⟩
  | n :: ns, k => by
    obtain ⟨h1, h2⟩ := hit_find ns k
    simp only [List.map_cons, hit_cons, eq_keys]
    unfold findN at *
    rw [List.find?_cons]
    by_cases e : n.node = k
    · rw [if_pos (by simp [e])]
      simp [e]
    · rw [if_neg (by simp; exact fun h => e h.symm)]
      have e2 : (n.node == k) = false := by simpa using e
      rw [e2]
      simp only
      cases hh : hit [Value.int .i64 k] (ns.map fun n => [.int .i64 n.node]) with
      | none => rw [hh] at h1 h2; exact ⟨h1, h2⟩
      | some j => rw [hh] at h1 h2; exact ⟨h1, h2⟩

theorem hit_set : ∀ (ns : List TNode) (x : TNode), setM false [.int .i64 x.node] (.agg (cellsV x)) (treeK ns) (ns.map fun n => .agg (cellsV n)) (hit [.int .i64 x.node] (ns.map fun n => [.int .i64 n.node])) = .map (treeK (setN ns x)) ((setN ns x).map fun n => .agg (cellsV n))
  | [], x => rfl
  | n :: ns, x => by
    have ih := hit_set ns x
    simp only [List.map_cons, hit_cons, eq_keys, setN]
    by_cases e : n.node = x.node
    · rw [if_pos (by simp [e]), if_pos e]
      simp [setM, treeK, e]
    · rw [if_neg (by simp; exact fun h => e h.symm), if_neg e]
      cases hh : hit [Value.int .i64 x.node] (ns.map fun n => [.int .i64 n.node]) with
      | none =>
        rw [hh] at ih
        simp only [setM, Slot.map.injEq] at ih
        simp only [Option.map_none, setM, treeK, List.map_cons, List.cons_append] at ih ⊢
        rw [← ih.1, ← ih.2]
      | some j =>
        rw [hh] at ih
        simp only [setM, Slot.map.injEq] at ih
        simp only [Option.map_some, setM, treeK, List.map_cons, List.set_cons_succ] at ih ⊢
        rw [← ih.2, ← ih.1]
end Go.AM

set_option linter.unusedVariables false
set_option linter.unusedSimpArgs false
set_option maxRecDepth 20000
namespace Go.AM
open Pic (enc dec dec_enc dec_sub)
open PicA (encA decA decA_encA decA_sub)

theorem enc_tr {t : TTree} : enc (some t) = .ip [.im (treeK t.nodes) (t.nodes.map enc), enc t.ops, enc t.skips] := rfl
theorem enc_tn : enc (none : Option TTree) = .s (.pointer none) := rfl
theorem mapR_pic {h : Heap} {ks vs : List I} : mapR h (.i (.im ks vs)) = some (0, ks, vs.map .i) := rfl
theorem keyV_int {n : Int} : keyV false (.i (.s (.int .i64 n))) = some [.int .i64 n] := rfl
theorem fits1 {n : Int} : fitsL [.int .i64] [.int .i64 n] = true := rfl
theorem gc_app {h l : Heap} {b g : Nat} {cs : List V} (hc : getCells h b g = some cs) : getCells (h ++ l) b g = some cs := by rw [gc_left (gc_lt hc)]; exact hc
/-- What a look-up shows. -/
theorem look_some {ns : List TNode} {k : Int} {n : TNode} (h : findN ns k = some n) : lookV true [.int .i64 0, .int .i64 0, .string ⟨#[]⟩] ((ns.map enc).map .i) (hit [.int .i64 k] (ns.map fun n => [.int .i64 n.node])) = some (.i (enc n)) ∧
    (hit [.int .i64 k] (ns.map fun n => [.int .i64 n.node])).isSome = true := by
  obtain ⟨h1, h2⟩ := hit_find ns k
  rw [h] at h1 h2
  refine ⟨?_, h2⟩
  obtain ⟨j, hj⟩ := Option.isSome_iff_exists.1 (h2.trans rfl)
  rw [hj] at h1 ⊢
  simp only [Option.bind_some] at h1
  simp [lookV, h1]
theorem look_none {ns : List TNode} {k : Int} (h : findN ns k = none) : lookV true [.int .i64 0, .int .i64 0, .string ⟨#[]⟩] ((ns.map enc).map .i) (hit [.int .i64 k] (ns.map fun n => [.int .i64 n.node])) = some (.agg (ivs [.int .i64 0, .int .i64 0, .string ⟨#[]⟩])) ∧
    (hit [.int .i64 k] (ns.map fun n => [.int .i64 n.node])).isSome = false := by
  obtain ⟨h1, h2⟩ := hit_find ns k
  rw [h] at h1 h2
  refine ⟨?_, h2⟩
  have hj : hit [.int .i64 k] (ns.map fun n => [.int .i64 n.node]) = none := by simpa using h2
  rw [hj]
  rfl

abbrev trV (t : TTree) : V := .i (.ip [.im (treeK t.nodes) (t.nodes.map enc), .sl 5 (t.ops.map enc), .sl 2 (t.skips.map enc)])
def mvC (x : TMove) : List V := [.i (iN x.id.time), .i (iN x.id.actor), .i (iN x.node), .i (iN x.parent), .i (iS x.name)]

def ringN (ns : List TNode) (node : Int) : Nat → Int → Bool
  | 0, _ => false
  | k + 1, at_ => if at_ ≤ 0 then false else if at_ = node then true else match findN ns at_ with
    | none => false
    | some n => ringN ns node k n.parent
noncomputable def p_impl_tree_ring (x0 : Option TTree) (x1 : TMove) : Option Bool := x0.map fun t => ringN t.nodes x1.node 1001 x1.parent

def c_impl_tree_ring : AFn := ⟨36, (.seq (.ops [(qS 3 (.box (.tmp 1))), (qS 4 (.mv (.const (.bool false))))]) (.seq (.ops [(qS 9 (.fieldA 3 (.tmp 3))), (qS 10 (.load 1 false (.tmp 9))), (qS 5 (.mv (.tmp 10)))]) (.seq (.seq (.ops [(qS 6 (.mv (ic 0)))]) (.block 0 (.loop (.seq (.seq (.ops [(qS 11 (.mv (.tmp 6))), (qS 12 (.pu (.n (.ar .leq)) [(.tmp 11), (ic 1000)])), (qS 13 (.mv (.tmp 12))), ⟨(.some 14), (.mv (.tmp 5)), (.some (13, true)), [], .none⟩, ⟨(.some 15), (.pu (.n (.ar .gtr)) [(.tmp 14), (ic 0)]), (.some (13, true)), [], .none⟩, (qS 16 (.pick (.tmp 13) (.tmp 15) (.const (.bool false))))]) (.cond (.tmp 16) .skip (.exit 0))) (.seq (.block 1 (.seq (.seq (.ops [(qS 19 (.mv (.tmp 5))), (qS 20 (.fieldA 2 (.tmp 3))), (qS 21 (.load 1 false (.tmp 20))), (qS 22 (.pu (.n (.ar .eql)) [(.tmp 19), (.tmp 21)]))]) (.cond (.tmp 22) (.seq (.ops [(qS 4 (.mv (.const (.bool true))))]) .ret) .skip)) (.seq (.ops [(qS 24 (.mv (.tmp 0))), (qS 25 (.nilChk (.tmp 24))), (qS 26 (.fieldA 0 (.tmp 25))), (qS 27 (.load 1 false (.tmp 26))), (qS 28 (.mv (.tmp 5))), (qS 29 (.lookup false [(.int .i64)] true [(.int .i64 0), (.int .i64 0), (.string ⟨#[]⟩)] true (.tmp 27) (.tmp 28))), (qS 23 (.mv (.tmp 29))), (qS 30 (.extract 0 (.tmp 23))), (qS 31 (.extract 1 (.tmp 23))), (qS 7 (.allocV [(0, false), (0, false), (0, false)] [(.int .i64 0), (.int .i64 0), (.string ⟨#[]⟩)])), ⟨.none, (.storeV [(0, false), (0, false), (0, false)] 3 (.tmp 7) (.tmp 30)), .none, [], .none⟩, (qS 8 (.mv (.tmp 31)))]) (.seq (.seq (.ops [(qS 32 (.mv (.tmp 8))), (qS 33 (.pu (.n (.un .not)) [(.tmp 32)]))]) (.cond (.tmp 33) (.seq (.ops [(qS 4 (.mv (.const (.bool false))))]) .ret) .skip)) (.ops [(qS 34 (.fieldA 1 (.tmp 7))), (qS 35 (.load 1 false (.tmp 34))), (qS 5 (.mv (.tmp 35)))]))))) (.ops [(qS 17 (.mv (.tmp 6))), (qS 18 (.pu (.n (.ar .add)) [(.tmp 17), (ic 1)])), (qS 6 (.mv (.tmp 18)))])))))) (.seq (.ops [(qS 4 (.mv (.const (.bool false))))]) .ret)))), [(.tmp 4)]⟩

theorem d_impl_tree_ring {P : Program} {env : Env} (x0 : Option TTree) (x1 : TMove) {b : Bool} (hp : p_impl_tree_ring x0 x1 = some b) : R P env (c_impl_tree_ring) ((encA (x0, x1)).map ofI) [] (Tells true b) := by
  obtain ⟨t, rfl, rfl⟩ := Option.map_eq_some_iff.1 hp
  refine R_of (by simp [c_impl_tree_ring, encA]) ?_
  unfold c_impl_tree_ring
  clear hp
  obtain ⟨R0, hR0⟩ : ∃ R0, R0 = ringN t.nodes x1.node 1001 x1.parent := ⟨_, rfl⟩
  rw [← hR0]
  simp (maxSteps := 2000000) (disch := omega) only [gm, S_dynV, w64_nat, w64_id, nI_add, nI_one, nI_two, nI_sub1, nI_sub, Int.ofNat_lt, Int.ofNat_le, Nat.reduceAdd, Nat.reduceMul, enc_tr, enc_TMove]
  refine W_loopK (fun n t' h => ∃ (k : Nat) (a s : Int), k = n ∧ t' 0 = trV t ∧ t' 3 = .ptr 0 5 0 ∧ t' 5 = .i (.s (.int .i64 a)) ∧ t' 6 = .i (.s (.int .i64 s)) ∧ s = 1001 - (k : Int) ∧ k ≤ 1001 ∧ getCells h 0 5 = some (mvC x1) ∧ R0 = ringN t.nodes x1.node k a) 1001 ⟨1001, x1.parent, 0, rfl, rfl, rfl, rfl, rfl, rfl, Nat.le_refl _, rfl, hR0⟩ ?_
  clear hR0
  rintro K n t' h hn hx ⟨k, a, s, rfl, h0, h3, h5, h6, hs, hk, hg, hR⟩
  unfold mvC at hg
  have hret : ∀ t2 h2 b, t2 4 = .i (.s (.bool b)) → R0 = b → K .ret t2 h2 := by
    intro t2 h2 b g4 e
    refine hx _ _ _ (by simp) ?_
    rw [e]
    simp (maxSteps := 2000000) (disch := omega) only [gm, S_dynV, w64_nat, w64_id, nI_add, nI_one, nI_two, nI_sub1, nI_sub, Int.ofNat_lt, Int.ofNat_le, Nat.reduceAdd, Nat.reduceMul, g4]
  have hend : ∀ t2 h2, R0 = false → K (.exit 0) t2 h2 := by
    intro t2 h2 e
    refine hx _ _ _ (by simp) ?_
    rw [e]
    simp (maxSteps := 2000000) (disch := omega) only [gm, S_dynV, w64_nat, w64_id, nI_add, nI_one, nI_two, nI_sub1, nI_sub, Int.ofNat_lt, Int.ofNat_le, Nat.reduceAdd, Nat.reduceMul]
  cases k with
  | zero =>
    have hc : ¬ s ≤ 1000 := by omega
    simp (maxSteps := 2000000) (disch := omega) only [gm, S_dynV, w64_nat, w64_id, nI_add, nI_one, nI_two, nI_sub1, nI_sub, Int.ofNat_lt, Int.ofNat_le, Nat.reduceAdd, Nat.reduceMul, h0, h3, h5, h6, hc]
    exact hend _ _ hR
  | succ k =>
    have hc : s ≤ 1000 := by omega
    rw [ringN] at hR
    by_cases ha : a ≤ 0
    · rw [if_pos ha] at hR
      have ha' : ¬ 0 < a := by omega
      simp (maxSteps := 2000000) (disch := omega) only [gm, S_dynV, w64_nat, w64_id, nI_add, nI_one, nI_two, nI_sub1, nI_sub, Int.ofNat_lt, Int.ofNat_le, Nat.reduceAdd, Nat.reduceMul, h0, h3, h5, h6, hc, ha']
      exact hend _ _ hR
    · rw [if_neg ha] at hR
      have ha' : 0 < a := by omega
      by_cases he : a = x1.node
      · rw [if_pos he] at hR
        simp (maxSteps := 2000000) (disch := omega) only [gm, S_dynV, w64_nat, w64_id, nI_add, nI_one, nI_two, nI_sub1, nI_sub, Int.ofNat_lt, Int.ofNat_le, Nat.reduceAdd, Nat.reduceMul, h0, h3, h5, h6, hc, ha', hg, decide_eq_true he]
        exact hret _ _ true rfl hR
      · rw [if_neg he] at hR
        have he' : decide (a = x1.node) = false := by simp [he]
        cases hf : findN t.nodes a with
        | none =>
          rw [hf] at hR
          obtain ⟨l1, l2⟩ := look_none hf
          simp (maxSteps := 2000000) (disch := omega) only [gm, S_dynV, w64_nat, w64_id, nI_add, nI_one, nI_two, nI_sub1, nI_sub, Int.ofNat_lt, Int.ofNat_le, Nat.reduceAdd, Nat.reduceMul, h0, h3, h5, h6, hc, ha', hg, he', mapR_pic, keyV_int, treeK_keys, fits1, l1, l2]
          exact hret _ _ false rfl hR
        | some nd =>
          rw [hf] at hR
          obtain ⟨l1, l2⟩ := look_some hf
          simp (maxSteps := 2000000) (disch := omega) only [gm, S_dynV, w64_nat, w64_id, nI_add, nI_one, nI_two, nI_sub1, nI_sub, Int.ofNat_lt, Int.ofNat_le, Nat.reduceAdd, Nat.reduceMul, h0, h3, h5, h6, hc, ha', hg, he', mapR_pic, keyV_int, treeK_keys, fits1, l1, l2, enc_TNode, w64_id]
          exact hn _ _ _ (by omega) ⟨k, nd.parent, s + 1, rfl, h0, h3, rfl, rfl, by omega, by omega, gc_app hg, hR⟩
end Go.AM

set_option linter.unusedVariables false
set_option linter.unusedSimpArgs false
set_option maxRecDepth 20000
namespace Go.AM
open Pic (enc dec dec_enc dec_sub)
open PicA (encA decA decA_encA decA_sub)

theorem dslM {xs : List TMove} : (dec (.sl 5 (xs.map enc)) : Option (List TMove)) = some xs := dec_enc xs
def ltM (x y : TMove) : Bool := decide (x.id.time < y.id.time ∨ (x.id.time = y.id.time ∧ x.id.actor < y.id.actor))
instance : Inhabited TMove := ⟨⟨⟨0, 0⟩, 0, 0, ⟨#[]⟩⟩⟩
def stOK (s : TStamp) : Bool := decide (1 ≤ s.time ∧ s.time ≤ 1000000000000 ∧ 0 ≤ s.actor ∧ s.actor < 16)
def mvOK (o : TMove) : Bool := decide (1 ≤ o.node ∧ o.node ≤ 1000 ∧ -1 ≤ o.parent ∧ o.parent ≤ 1000 ∧ (o.name.size : Int) ≤ 200)
/-- Of one Id the first; none: two with one Id differ. -/
def dedM : Option TMove → List TMove → List TMove → Option (List TMove)
  | _, [], acc => some acc
  | p, o :: l, acc => match p with
    | some q => if q.id = o.id then (if q = o then dedM (some o) l acc else none) else dedM (some o) l (acc ++ [o])
    | none => dedM (some o) l (acc ++ [o])
def growM : List TMove → List TNode → List TStamp → List TNode × List TStamp
  | [], ns, sk => (ns, sk)
  | o :: l, ns, sk => if ringN ns o.node 1001 o.parent = true then growM l ns (sk ++ [o.id]) else growM l (setN ns ⟨o.node, o.parent, o.name⟩) sk
def treeM (ops : List TMove) : T2 (Option TTree) Int :=
  if 2048 < ops.length then ⟨none, 2⟩ else if ops.all (fun o => stOK o.id && mvOK o) = false then ⟨none, 1⟩ else
    match dedM none (sortL ltM ops) [] with
    | none => ⟨none, 16⟩
    | some l => ⟨some ⟨(growM l [] []).1, l, (growM l [] []).2⟩, 0⟩
noncomputable def p_impl_readTree (x0 : List TMove) : Option (T2 (Option TTree) Int) := some (treeM x0)

def pathN (ns : List TNode) : Nat → Int → ByteArray → Option (T2 ByteArray Int)
  | 0, _, _ => none
  | n + 1, at_, acc => match findN ns at_ with
    | none => some ⟨⟨#[]⟩, 7⟩
    | some nd => (cat? ⟨#[47]⟩ nd.name).bind fun s => (cat? s acc).bind fun s2 => if nd.parent = 0 then some ⟨s2, 0⟩ else pathN ns n nd.parent s2
noncomputable def p_impl_TreePath (x0 : List TMove) (x1 : Int) : Option (T2 ByteArray Int) :=
  (p_impl_readTree x0).bind fun r => if r.b ≠ 0 then some ⟨⟨#[]⟩, r.b⟩ else r.a.bind fun t => fixP fun n => pathN t.nodes n x1 ⟨#[]⟩

def c_impl_TreePath (f_impl_readTree : Nat) : AFn := ⟨46, (.seq (.ops [(qS 4 (.mv (.const (.string ⟨#[]⟩)))), (qS 5 (.mv (ic 0)))]) (.seq (.ops [(qS 14 (.mv (.tmp 0))), (qS 15 (.call (2 * f_impl_readTree) [(.tmp 14)])), (qS 13 (.mv (.tmp 15))), (qS 16 (.extract 0 (.tmp 13))), (qS 17 (.extract 1 (.tmp 13))), (qS 6 (.mv (.tmp 16))), (qS 7 (.mv (.tmp 17)))]) (.seq (.seq (.ops [(qS 18 (.mv (.tmp 7))), (qS 19 (.pu (.n (.ar .neq)) [(.tmp 18), (ic 0)]))]) (.cond (.tmp 19) (.seq (.ops [(qS 20 (.mv (.tmp 7))), (qS 4 (.mv (.const (.string ⟨#[]⟩)))), (qS 5 (.mv (.tmp 20)))]) .ret) .skip)) (.seq (.ops [(qS 8 (.mv (.const (.string ⟨#[]⟩))))]) (.seq (.seq (.ops [(qS 21 (.mv (.tmp 1))), (qS 9 (.mv (.tmp 21))), (qS 10 (.mv (.const (.bool true))))]) (.block 0 (.loop (.seq (.seq (.ops [(qS 22 (.mv (.tmp 9))), (qS 23 (.pu (.n (.ar .neq)) [(.tmp 22), (ic 0)])), (qS 24 (.mv (.tmp 23))), ⟨(.some 25), (.mv (.tmp 10)), (.some (24, false)), [], .none⟩, (qS 26 (.pick (.tmp 24) (.const (.bool true)) (.tmp 25)))]) (.cond (.tmp 26) .skip (.exit 0))) (.seq (.block 1 (.seq (.ops [(qS 28 (.mv (.tmp 6))), (qS 29 (.nilChk (.tmp 28))), (qS 30 (.fieldA 0 (.tmp 29))), (qS 31 (.load 1 false (.tmp 30))), (qS 32 (.mv (.tmp 9))), (qS 33 (.lookup false [(.int .i64)] true [(.int .i64 0), (.int .i64 0), (.string ⟨#[]⟩)] true (.tmp 31) (.tmp 32))), (qS 27 (.mv (.tmp 33))), (qS 34 (.extract 0 (.tmp 27))), (qS 35 (.extract 1 (.tmp 27))), (qS 11 (.allocV [(0, false), (0, false), (0, false)] [(.int .i64 0), (.int .i64 0), (.string ⟨#[]⟩)])), ⟨.none, (.storeV [(0, false), (0, false), (0, false)] 3 (.tmp 11) (.tmp 34)), .none, [], .none⟩, (qS 12 (.mv (.tmp 35)))]) (.seq (.seq (.ops [(qS 36 (.mv (.tmp 12))), (qS 37 (.pu (.n (.un .not)) [(.tmp 36)]))]) (.cond (.tmp 37) (.seq (.ops [(qS 4 (.mv (.const (.string ⟨#[]⟩)))), (qS 5 (.mv (ic 7)))]) .ret) .skip)) (.seq (.ops [(qS 38 (.fieldA 2 (.tmp 11))), (qS 39 (.load 1 false (.tmp 38))), (qS 40 (.pu (.n (.ar .add)) [(.const (.string ⟨#[47]⟩)), (.tmp 39)])), (qS 41 (.mv (.tmp 8))), (qS 42 (.pu (.n (.ar .add)) [(.tmp 40), (.tmp 41)])), (qS 8 (.mv (.tmp 42)))]) (.ops [(qS 43 (.fieldA 1 (.tmp 11))), (qS 44 (.load 1 false (.tmp 43))), (qS 9 (.mv (.tmp 44)))]))))) (.ops [(qS 10 (.mv (.const (.bool false))))])))))) (.seq (.ops [(qS 45 (.mv (.tmp 8))), (qS 4 (.mv (.tmp 45))), (qS 5 (.mv (ic 0)))]) .ret)))))), [(.tmp 4), (.tmp 5)]⟩

theorem d_impl_TreePath {P : Program} {env : Env} {f_impl_readTree : Nat} (ep_impl_readTree : env (2 * f_impl_readTree) = pureFn true (FA fun a : List TMove => p_impl_readTree a)) (x0 : List TMove) (x1 : Int) {b : T2 ByteArray Int} (hp : p_impl_TreePath x0 x1 = some b) : R P env (c_impl_TreePath f_impl_readTree) ((encA (x0, x1)).map ofI) [] (Tells true b) := by
  refine R_of (by simp [c_impl_TreePath, encA]) ?_
  unfold c_impl_TreePath
  unfold p_impl_TreePath at hp
  obtain ⟨⟨tr, code⟩, hr, hp⟩ := Option.bind_eq_some_iff.1 hp
  simp only at hp
  by_cases hc : code = 0
  · subst hc
    rw [if_neg (by simp)] at hp
    obtain ⟨t, rfl, hp⟩ := Option.bind_eq_some_iff.1 hp
    obtain ⟨n0, hn0⟩ := fixP_some hp
    simp (maxSteps := 2000000) (disch := omega) only [gm, S_dynV, w64_nat, w64_id, nI_add, nI_one, nI_two, nI_sub1, nI_sub, Int.ofNat_lt, Int.ofNat_le, Nat.reduceAdd, Nat.reduceMul, ep_impl_readTree, dslM, hr, enc_T2, enc_tr]
    clear hp hr
    refine W_loopK (fun n t' h => ∃ (k : Nat) (a : Int) (acc : ByteArray) (fs : Bool), k = n ∧ t' 6 = trV t ∧ t' 8 = .i (.s (.string acc)) ∧ t' 9 = .i (.s (.int .i64 a)) ∧ t' 10 = .i (.s (.bool fs)) ∧
      ((a = 0 ∧ fs = false ∧ b = ⟨acc, 0⟩) ∨ (¬ (a = 0 ∧ fs = false) ∧ pathN t.nodes k a acc = some b))) n0 ⟨n0, x1, ⟨#[]⟩, true, rfl, rfl, rfl, rfl, rfl, .inr ⟨by simp, hn0⟩⟩ ?_
    clear hn0
    rintro K n t' h hn hx ⟨k, a, acc, fs, rfl, h6, h8, h9, h10, hI⟩
    rcases hI with ⟨rfl, rfl, rfl⟩ | ⟨hI, hp⟩
    · simp (maxSteps := 2000000) (disch := omega) only [gm, S_dynV, w64_nat, w64_id, nI_add, nI_one, nI_two, nI_sub1, nI_sub, Int.ofNat_lt, Int.ofNat_le, Nat.reduceAdd, Nat.reduceMul, h6, h8, h9, h10]
      refine hx _ _ _ (by simp) ?_
      simp (maxSteps := 2000000) (disch := omega) only [gm, S_dynV, w64_nat, w64_id, nI_add, nI_one, nI_two, nI_sub1, nI_sub, Int.ofNat_lt, Int.ofNat_le, Nat.reduceAdd, Nat.reduceMul, h6, h8, h9, h10]
    · cases k with
      | zero => cases hp
      | succ k =>
        have hgo : (a = 0 → fs = true) := fun e => by
          cases fs with
          | true => rfl
          | false => exact absurd ⟨e, rfl⟩ hI
        rw [pathN] at hp
        cases hf : findN t.nodes a with
        | none =>
          rw [hf] at hp
          cases hp
          obtain ⟨l1, l2⟩ := look_none hf
          have fin : ∀ t2 h2, t2 4 = .i (.s (.string ⟨#[]⟩)) → t2 5 = .i (.s (.int .i64 7)) → K .ret t2 h2 := by
            intro t2 h2 g4 g5
            refine hx _ _ _ (by simp) ?_
            simp (maxSteps := 2000000) (disch := omega) only [gm, S_dynV, w64_nat, w64_id, nI_add, nI_one, nI_two, nI_sub1, nI_sub, Int.ofNat_lt, Int.ofNat_le, Nat.reduceAdd, Nat.reduceMul, g4, g5]
          by_cases ha : a = 0
          · have hfs := hgo ha
            have ha' : decide (a = 0) = true := by simp [ha]
            subst hfs
            simp (maxSteps := 2000000) (disch := omega) only [gm, S_dynV, w64_nat, w64_id, nI_add, nI_one, nI_two, nI_sub1, nI_sub, Int.ofNat_lt, Int.ofNat_le, Nat.reduceAdd, Nat.reduceMul, h6, h8, h9, h10, ha', mapR_pic, keyV_int, treeK_keys, fits1, l1, l2]
            exact fin _ _ rfl rfl
          · have ha' : decide (a = 0) = false := by simp [ha]
            simp (maxSteps := 2000000) (disch := omega) only [gm, S_dynV, w64_nat, w64_id, nI_add, nI_one, nI_two, nI_sub1, nI_sub, Int.ofNat_lt, Int.ofNat_le, Nat.reduceAdd, Nat.reduceMul, h6, h8, h9, h10, ha', mapR_pic, keyV_int, treeK_keys, fits1, l1, l2]
            exact fin _ _ rfl rfl
        | some nd =>
          rw [hf] at hp
          simp only at hp
          obtain ⟨l1, l2⟩ := look_some hf
          obtain ⟨s1, c1, hp⟩ := Option.bind_eq_some_iff.1 hp
          obtain ⟨s2, c2, hp⟩ := Option.bind_eq_some_iff.1 hp
          have hnx : (nd.parent = 0 ∧ false = false ∧ b = ⟨s2, 0⟩) ∨ (¬ (nd.parent = 0 ∧ false = false) ∧ pathN t.nodes k nd.parent s2 = some b) := by
            by_cases h0 : nd.parent = 0
            · rw [if_pos h0] at hp
              cases hp
              exact .inl ⟨h0, rfl, rfl⟩
            · rw [if_neg h0] at hp
              exact .inr ⟨fun e => h0 e.1, hp⟩
          by_cases ha : a = 0
          · have hfs := hgo ha
            have ha' : decide (a = 0) = true := by simp [ha]
            subst hfs
            simp (maxSteps := 2000000) (disch := omega) only [gm, S_dynV, w64_nat, w64_id, nI_add, nI_one, nI_two, nI_sub1, nI_sub, Int.ofNat_lt, Int.ofNat_le, Nat.reduceAdd, Nat.reduceMul, h6, h8, h9, h10, ha', mapR_pic, keyV_int, treeK_keys, fits1, l1, l2, enc_TNode, c1, c2]
            exact hn _ _ _ (by omega) ⟨k, nd.parent, s2, false, rfl, h6, rfl, rfl, rfl, hnx⟩
          · have ha' : decide (a = 0) = false := by simp [ha]
            simp (maxSteps := 2000000) (disch := omega) only [gm, S_dynV, w64_nat, w64_id, nI_add, nI_one, nI_two, nI_sub1, nI_sub, Int.ofNat_lt, Int.ofNat_le, Nat.reduceAdd, Nat.reduceMul, h6, h8, h9, h10, ha', mapR_pic, keyV_int, treeK_keys, fits1, l1, l2, enc_TNode, c1, c2]
            exact hn _ _ _ (by omega) ⟨k, nd.parent, s2, false, rfl, h6, rfl, rfl, rfl, hnx⟩
  · rw [if_pos hc] at hp
    cases hp
    have hc' : decide (code = 0) = false := by simp [hc]
    cases tr with
    | none => 
      simp (maxSteps := 2000000) (disch := omega) only [gm, S_dynV, w64_nat, w64_id, nI_add, nI_one, nI_two, nI_sub1, nI_sub, Int.ofNat_lt, Int.ofNat_le, Nat.reduceAdd, Nat.reduceMul, ep_impl_readTree, dslM, hr, enc_T2, enc_tn, hc']
    | some t => 
      simp (maxSteps := 2000000) (disch := omega) only [gm, S_dynV, w64_nat, w64_id, nI_add, nI_one, nI_two, nI_sub1, nI_sub, Int.ofNat_lt, Int.ofNat_le, Nat.reduceAdd, Nat.reduceMul, ep_impl_readTree, dslM, hr, enc_T2, enc_tr, hc']
end Go.AM

set_option linter.unusedVariables false
set_option linter.unusedSimpArgs false
set_option maxRecDepth 20000
namespace Go.AM
open Pic (enc dec dec_enc dec_sub)
open PicA (encA decA decA_encA decA_sub)
/-- A list in a block of its own behind T, or no list yet. -/
def OwnV {α : Type} [Pic α] (z T : Nat) (h : Heap) (v : V) (xs : List α) : Prop := (xs = [] ∧ v = .i (.s (.slice none 0 0))) ∨ ∃ B, T < B ∧ v = .hsl B (xs.length * z) 0 z true xs.length ∧ getCells h B (xs.length * z) = some (rows xs)

structure RT (h : Heap) (b c m T : Nat) (S : List TMove) (opsV skV : V) (ns : List TNode) (ops : List TMove) (sk : List TStamp) : Prop where
  row : getCells h b (S.length * 5) = some (rows S)
  var : getCells h c 1 = some [.hsl b (S.length * 5) 0 5 true S.length]
  mp : h[m]? = some (.map (treeK ns) (ns.map fun n => .agg (cellsV n)))
  tr : getCells h T 3 = some [.mp m, opsV, skV]
  lo : OwnV 5 T h opsV ops
  ls : OwnV 2 T h skV sk
  bT : b < T
  cT : c < T
  mT : m < T
  bc : b ≠ c
  bm : b ≠ m
  cm : c ≠ m
  dis : ∀ x g n y g' n', opsV = .hsl x g 0 5 true n → skV = .hsl y g' 0 2 true n' → x ≠ y

theorem OwnV.app {α : Type} [Pic α] {z T : Nat} {h : Heap} {v : V} {xs : List α} (o : OwnV z T h v xs) (l : Heap) : OwnV z T (h ++ l) v xs := by
  rcases o with ⟨h1, h2⟩ | ⟨B, h1, h2, h3⟩
  · exact .inl ⟨h1, h2⟩
  · exact .inr ⟨B, h1, h2, gc_app h3⟩
theorem RT.app {h : Heap} {b c m T : Nat} {S : List TMove} {v u : V} {ns : List TNode} {ops : List TMove} {sk : List TStamp} (r : RT h b c m T S v u ns ops sk) (l : Heap) : RT (h ++ l) b c m T S v u ns ops sk :=
  ⟨gc_app r.row, gc_app r.var, by rw [List.getElem?_append_left (List.getElem?_eq_some_iff.1 r.mp).1]; exact r.mp, gc_app r.tr, r.lo.app l, r.ls.app l, r.bT, r.cT, r.mT, r.bc, r.bm, r.cm, r.dis⟩
theorem RT.upd {h h' : Heap} {b c m T : Nat} {S : List TMove} {v u v' u' : V} {ns : List TNode} {ops ops' : List TMove} {sk sk' : List TStamp} (r : RT h b c m T S v u ns ops sk) (keep : ∀ x, x < T → h'[x]? = h[x]?)
    (tr' : getCells h' T 3 = some [.mp m, v', u']) (lo' : OwnV 5 T h' v' ops') (ls' : OwnV 2 T h' u' sk') (dis' : ∀ x g n y g' n', v' = .hsl x g 0 5 true n → u' = .hsl y g' 0 2 true n' → x ≠ y) : RT h' b c m T S v' u' ns ops' sk' :=
  ⟨(getCells_congr (keep b r.bT)).trans r.row, (getCells_congr (keep c r.cT)).trans r.var, (keep m r.mT).trans r.mp, tr', lo', ls', r.bT, r.cT, r.mT, r.bc, r.bm, r.cm, dis'⟩
theorem at_setT {h l : Heap} {T x : Nat} {s : Slot} (hT : T < h.length) (hx : x < T) : (h.set T s ++ l)[x]? = h[x]? := by
  rw [List.getElem?_append_left (by rw [List.length_set]; omega), List.getElem?_set_ne (by omega)]
theorem gc_setT {h l : Heap} {T g : Nat} {cs : List V} (hT : T < h.length) (hg : cs.length = g) : getCells (h.set T (.cells cs) ++ l) T g = some cs := by
  rw [gc_left (by rw [List.length_set]; exact hT), gc_set_eq hT, if_pos hg]
theorem idxH {h : Heap} {b g len i : Nat} {cs : List V} (hg : getCells h b g = some cs) (hi : i < len) : stepIdxS 5 h (i : Int) (.hsl b g 0 5 true len) = some (.ptr b g (i * 5)) := by
  simp only [stepIdxS, hg]
  rw [if_pos ⟨trivial, by omega, by omega⟩]
  simp
theorem ldRow {h : Heap} {b i : Nat} {S : List TMove} {o : TMove} (hg : getCells h b (S.length * 5) = some (rows S)) (ho : S[i]? = some o) : stepLoad 5 true h (.ptr b (S.length * 5) (i * 5)) = some (.agg (cellsV o)) := by
  have hi : i < S.length := (List.getElem?_eq_some_iff.1 ho).1
  have := rows_get (xs := S) ho
  simp only [stepLoad, hg, Option.bind_some]
  rw [if_pos (by rw [rows_len, z_TMove]; omega)]
  rw [z_TMove] at this
  rw [this]
  rfl
theorem ldId {h : Heap} {b i : Nat} {S : List TMove} {o : TMove} (hg : getCells h b (S.length * 5) = some (rows S)) (ho : S[i]? = some o) : stepLoad 2 true h (.ptr b (S.length * 5) (i * 5)) = some (.agg [.i (iN o.id.time), .i (iN o.id.actor)]) := by
  have hi : i < S.length := (List.getElem?_eq_some_iff.1 ho).1
  have := rows_get (xs := S) ho
  simp only [stepLoad, hg, Option.bind_some]
  rw [if_pos (by rw [rows_len, z_TMove]; omega)]
  rw [z_TMove] at this
  have h2 : ((rows S).drop (i * 5)).take 2 = (((rows S).drop (i * 5)).take 5).take 2 := by rw [List.take_take]; rfl
  rw [h2, this]
  rfl

theorem dedup_loop {t : Nat → V} {P : Program} {env : Env} {Q : Post} {h : Heap} {b c m T : Nat} {S : List TMove} (hS : S.length ≤ 2048) (rt : RT h b c m T S (.i (.s (.slice none 0 0))) (.i (.s (.slice none 0 0))) [] [] [])
    (g6 : t 6 = .ptr c 1 0) (g7 : t 7 = .ptr T 3 0) (g40 : t 40 = .hsl b (S.length * 5) 0 5 true S.length) (g41 : t 41 = .i (.s (.int .i64 (S.length : Int)))) (g42 : t 42 = .i (.s (.int .i64 0)))
    (hQ : ∀ t' h' v l, dedM none S [] = some l → t' 7 = .ptr T 3 0 → RT h' b c m T S v (.i (.s (.slice none 0 0))) [] l [] → Q (.exit 2) t' h')
    (hR : dedM none S [] = none → ∀ t' h', t' 2 = .i (.s (.pointer none)) → t' 3 = .i (.s (.int .i64 16)) → Q .ret t' h') :
    @W P env ⟨(.loop (.seq (.ops [(qS 43 (.pu (.n (.ar .lss)) [(.tmp 42), (.tmp 41)]))]) (.seq (.cond (.tmp 43) .skip (.exit 2)) (.seq (.block 3 (.seq (.ops [(qS 44 (.mv (.tmp 42))), (qS 45 (.idxS 5 (.tmp 40) (.tmp 42))), (qS 46 (.load 5 true (.tmp 45))), (qS 9 (.allocV [(0, false), (0, false), (0, false), (0, false), (0, false)] [(.int .i64 0), (.int .i64 0), (.int .i64 0), (.int .i64 0), (.string ⟨#[]⟩)])), (qS 8 (.mv (.tmp 44))), ⟨.none, (.storeV [(0, false), (0, false), (0, false), (0, false), (0, false)] 5 (.tmp 9) (.tmp 46)), .none, [], .none⟩]) (.seq (.seq (.ops [(qS 47 (.mv (.tmp 8))), (qS 48 (.pu (.n (.ar .gtr)) [(.tmp 47), (ic 0)])), (qS 49 (.mv (.tmp 48))), ⟨(.some 50), (.load 1 false (.tmp 6)), (.some (49, true)), [], .none⟩, ⟨(.some 51), (.mv (.tmp 8)), (.some (49, true)), [], .none⟩, ⟨(.some 52), (.pu (.n (.ar .sub)) [(.tmp 51), (ic 1)]), (.some (49, true)), [], .none⟩, ⟨(.some 53), (.idxS 5 (.tmp 50) (.tmp 52)), (.some (49, true)), [], .none⟩, ⟨(.some 54), (.fieldA 0 (.tmp 53)), (.some (49, true)), [], .none⟩, ⟨(.some 55), (.load 2 true (.tmp 54)), (.some (49, true)), [], .none⟩, ⟨(.some 56), (.fieldA 0 (.tmp 9)), (.some (49, true)), [], .none⟩, ⟨(.some 57), (.load 2 true (.tmp 56)), (.some (49, true)), [], .none⟩, ⟨(.some 58), (.aeq false [(.int .i64), (.int .i64)] (.tmp 55) (.tmp 57)), (.some (49, true)), [], .none⟩, (qS 59 (.pick (.tmp 49) (.tmp 58) (.const (.bool false))))]) (.cond (.tmp 59) (.seq (.seq (.ops [(qS 60 (.load 1 false (.tmp 6))), (qS 61 (.mv (.tmp 8))), (qS 62 (.pu (.n (.ar .sub)) [(.tmp 61), (ic 1)])), (qS 63 (.idxS 5 (.tmp 60) (.tmp 62))), (qS 64 (.load 5 true (.tmp 63))), (qS 65 (.load 5 true (.tmp 9))), (qS 66 (.aeq true [(.int .i64), (.int .i64), (.int .i64), (.int .i64), .str] (.tmp 64) (.tmp 65)))]) (.cond (.tmp 66) (.seq (.ops [(qS 2 (.mv (.const (.pointer .none)))), (qS 3 (.mv (ic 16)))]) .ret) .skip)) (.exit 3)) .skip)) (.ops [(qS 67 (.mv (.tmp 7))), (qS 68 (.mv (.tmp 7))), (qS 69 (.nilChk (.tmp 68))), (qS 70 (.fieldA 1 (.tmp 69))), (qS 71 (.load 1 false (.tmp 70))), (qS 72 (.load 5 true (.tmp 9))), (qS 73 (.buildSl 5 true 1 [(.int .i64 0), (.int .i64 0), (.int .i64 0), (.int .i64 0), (.string ⟨#[]⟩)] [(0, (.tmp 72))])), (qS 74 (.append 5 true 48 (.tmp 71) (.tmp 73))), (qS 75 (.nilChk (.tmp 67))), (qS 76 (.fieldA 1 (.tmp 75))), ⟨.none, (.store 1 (.tmp 76) (.tmp 74)), .none, [], .none⟩])))) (.ops [(qS 77 (.pu (.n (.ar .add)) [(.tmp 42), (ic 1)])), (qS 42 (.mv (.tmp 77)))])))))⟩ t h ⟨Q⟩ := by
  obtain ⟨D, hD⟩ : ∃ D, D = dedM none S [] := ⟨_, rfl⟩
  rw [← hD] at hQ hR
  refine W_loopK (fun n t h => ∃ (i : Nat) (v : V) (acc : List TMove), n = S.length - i ∧ i ≤ S.length ∧ acc.length ≤ i ∧ t 6 = .ptr c 1 0 ∧ t 7 = .ptr T 3 0 ∧ t 40 = .hsl b (S.length * 5) 0 5 true S.length ∧ t 41 = .i (.s (.int .i64 (S.length : Int))) ∧ t 42 = .i (.s (.int .i64 (i : Int))) ∧
    RT h b c m T S v (.i (.s (.slice none 0 0))) [] acc [] ∧ D = dedM (if i = 0 then none else S[i - 1]?) (S.drop i) acc) S.length ⟨0, _, [], rfl, Nat.zero_le _, Nat.le_refl _, g6, g7, g40, g41, g42, rt, hD⟩ ?_
  clear g6 g7 g40 g41 g42 rt hD
  rintro K n t h hn hx ⟨i, v, acc, rfl, hi, hai, g6, g7, g40, g41, g42, rt, hD⟩
  by_cases hlt : i < S.length
  · obtain ⟨o, ho⟩ : ∃ o, o = S[i] := ⟨_, rfl⟩
    have hoi : S[i]? = some o := by rw [ho]; exact List.getElem?_eq_getElem hlt
    have hdr : S.drop i = o :: S.drop (i + 1) := by rw [ho, List.getElem_cons_drop]
    rw [hdr] at hD
    have r1 := ldRow rt.row hoi
    have x1 := idxH rt.row hlt
    by_cases h0 : i = 0
    · rw [if_pos h0] at hD
      have h0' : ¬ (0 : Int) < (i : Int) := by omega
      simp only [dedM] at hD
      have rT : ∀ l, getCells (h ++ l) T 3 = some [.mp m, v, .i (.s (.slice none 0 0))] := fun l => gc_app rt.tr
      have lT := gc_lt rt.tr
      rcases rt.lo with ⟨rfl, rfl⟩ | ⟨B, hTB, rfl, hB⟩
      · simp (maxSteps := 2000000) (disch := omega) only [gm, S_dynV, w64_nat, w64_id, nI_add, nI_one, nI_two, nI_sub1, nI_sub, Int.ofNat_lt, Int.ofNat_le, Nat.reduceAdd, Nat.reduceMul, g6, g7, g40, g41, g42, hlt, x1, r1, cellsV_TMove, h0', rT]
        have rt' : RT (List.set h T (Slot.cells [V.mp m, V.hsl (List.length h + 2) 5 0 5 true 1, V.i (I.s (Value.slice none 0 0))]) ++ [Slot.cells (cellsV o), Slot.cells (cellsV o), Slot.cells (cellsV o)]) b c m T S (V.hsl (List.length h + 2) 5 0 5 true 1) (V.i (I.s (Value.slice none 0 0))) [] ([] ++ [o]) [] := by
          refine rt.upd (fun x hx => at_setT lT hx) (gc_setT lT rfl) (.inr ⟨h.length + 2, by omega, rfl, ?_⟩) (.inl ⟨rfl, rfl⟩) (fun _ _ _ _ _ _ _ e => by cases e)
          rw [gc_ge (by rw [List.length_set]; omega), List.length_set, Nat.add_sub_cancel_left, List.nil_append, rows_one]
          rfl
        exact hn _ _ _ (by omega) ⟨i + 1, _, [] ++ [o], rfl, by omega, by simp, g6, g7, g40, g41, rfl, rt', by rw [if_neg (Nat.succ_ne_zero i), Nat.add_sub_cancel, hoi]; exact hD⟩
      · have rB : ∀ l, getCells (h ++ l) B (acc.length * 5) = some (rows acc) := fun l => gc_app hB
        have lB := gc_lt hB
        have rT2 : ∀ s l, getCells (h.set B s ++ l) T 3 = some [.mp m, .hsl B (acc.length * 5) 0 5 true acc.length, .i (.s (.slice none 0 0))] := fun s l => gc_app (by rw [gc_set (by omega)]; exact rt.tr)
        simp (maxSteps := 2000000) (disch := omega) only [gm, S_dynV, w64_nat, w64_id, nI_add, nI_one, nI_two, nI_sub1, nI_sub, Int.ofNat_lt, Int.ofNat_le, Nat.reduceAdd, Nat.reduceMul, g6, g7, g40, g41, g42, hlt, x1, r1, cellsV_TMove, h0', rT, rB, rT2]
        have rt' : RT ((List.set h B (Slot.cells (rows acc ++ cellsV o)) ++ [Slot.cells (cellsV o), Slot.cells (cellsV o)]).set T (Slot.cells [V.mp m, V.hsl B (acc.length * 5 + 5) 0 5 true (acc.length + 1), V.i (I.s (Value.slice none 0 0))])) b c m T S (V.hsl B (acc.length * 5 + 5) 0 5 true (acc.length + 1)) (V.i (I.s (Value.slice none 0 0))) [] (acc ++ [o]) [] := by
          refine rt.upd (fun x hx => ?_) ?_ (.inr ⟨B, hTB, ?_, ?_⟩) (.inl ⟨rfl, rfl⟩) (fun _ _ _ _ _ _ _ e => by cases e)
          · rw [List.getElem?_set_ne (by omega), List.getElem?_append_left (by rw [List.length_set]; omega), List.getElem?_set_ne (by omega)]
          · exact set_cells (rT2 _ _) rfl
          · rw [List.length_append, List.length_cons, List.length_nil, Nat.add_mul]
          · rw [gc_set (by omega), gc_left (by rw [List.length_set]; omega), gc_set_eq lB, rows_append, rows_one, if_pos (by rw [List.length_append, rows_len, cellsV_len, z_TMove, List.length_append, Nat.add_mul]; rfl)]
        exact hn _ _ _ (by omega) ⟨i + 1, _, acc ++ [o], rfl, by omega, by simp; omega, g6, g7, g40, g41, rfl, rt', by rw [if_neg (Nat.succ_ne_zero i), Nat.add_sub_cancel, hoi]; exact hD⟩
    · rw [if_neg h0] at hD
      have h0' : (0 : Int) < (i : Int) := by omega
      obtain ⟨q, hq⟩ : ∃ q, q = S[i - 1]'(by omega) := ⟨_, rfl⟩
      have hqi : S[i - 1]? = some q := by rw [hq]; exact List.getElem?_eq_getElem _
      rw [hqi] at hD
      simp only [dedM] at hD
      have r2 : ∀ l, stepLoad 2 true (h ++ l) (.ptr b (S.length * 5) ((i - 1) * 5)) = _ := fun l => ldId (gc_app rt.row) hqi
      have r3 : ∀ l, stepLoad 5 true (h ++ l) (.ptr b (S.length * 5) ((i - 1) * 5)) = _ := fun l => ldRow (gc_app rt.row) hqi
      have rv : ∀ l, stepLoad 1 false (h ++ l) (.ptr c 1 0) = some (.hsl b (S.length * 5) 0 5 true S.length) := fun l => by simp [stepLoad, gc_app rt.var, rowV]
      have x2 : ∀ l : Heap, stepIdxS 5 (h ++ l) ((i - 1 : Nat) : Int) (.hsl b (S.length * 5) 0 5 true S.length) = some (.ptr b (S.length * 5) ((i - 1) * 5)) := fun l => idxH (gc_app rt.row) (by omega)
      by_cases he : q.id = o.id
      · rw [if_pos he] at hD
        have he1 : decide (q.id.time = o.id.time) = true := by rw [he]; simp
        have he2 : decide (q.id.actor = o.id.actor) = true := by rw [he]; simp
        have hm3 : (decide (q.node = o.node) && (decide (q.parent = o.parent) && decide (q.name = o.name))) = decide (q = o) := by
          rw [← eq_TMove]
          simp only [eqL, eqV, he1, he2, Bool.true_and, Bool.and_true]
        by_cases hm : q = o
        · rw [if_pos hm] at hD
          rw [decide_eq_true hm] at hm3
          simp (maxSteps := 2000000) (disch := omega) only [gm, S_dynV, w64_nat, w64_id, nI_add, nI_one, nI_two, nI_sub1, nI_sub, Int.ofNat_lt, Int.ofNat_le, Nat.reduceAdd, Nat.reduceMul, g6, g7, g40, g41, g42, hlt, x1, r1, cellsV_TMove, h0', x2, rv, r2, r3, he1, he2, hm3]
          exact hn _ _ _ (by omega) ⟨i + 1, v, acc, rfl, by omega, by omega, g6, g7, g40, g41, rfl, rt.app _, by rw [if_neg (Nat.succ_ne_zero i), Nat.add_sub_cancel, hoi]; exact hD⟩
        · rw [if_neg hm] at hD
          rw [decide_eq_false hm] at hm3
          simp (maxSteps := 2000000) (disch := omega) only [gm, S_dynV, w64_nat, w64_id, nI_add, nI_one, nI_two, nI_sub1, nI_sub, Int.ofNat_lt, Int.ofNat_le, Nat.reduceAdd, Nat.reduceMul, g6, g7, g40, g41, g42, hlt, x1, r1, cellsV_TMove, h0', x2, rv, r2, r3, he1, he2, hm3]
          exact hx _ _ _ (by simp) (hR hD _ _ rfl rfl)
      · rw [if_neg he] at hD
        have hne : (decide (q.id.time = o.id.time) && decide (q.id.actor = o.id.actor)) = false := by
          have e := eq_TStamp (x := q.id) (y := o.id)
          simp only [eqL, eqV, Bool.and_true] at e
          rw [e, decide_eq_false he]
        have rT : ∀ l, getCells (h ++ l) T 3 = some [.mp m, v, .i (.s (.slice none 0 0))] := fun l => gc_app rt.tr
        have lT := gc_lt rt.tr
        rcases rt.lo with ⟨rfl, rfl⟩ | ⟨B, hTB, rfl, hB⟩
        · simp (maxSteps := 2000000) (disch := omega) only [gm, S_dynV, w64_nat, w64_id, nI_add, nI_one, nI_two, nI_sub1, nI_sub, Int.ofNat_lt, Int.ofNat_le, Nat.reduceAdd, Nat.reduceMul, g6, g7, g40, g41, g42, hlt, x1, r1, cellsV_TMove, h0', x2, rv, r2, r3, hne, rT]
          have rt' : RT (List.set h T (Slot.cells [V.mp m, V.hsl (List.length h + 2) 5 0 5 true 1, V.i (I.s (Value.slice none 0 0))]) ++ [Slot.cells (cellsV o), Slot.cells (cellsV o), Slot.cells (cellsV o)]) b c m T S (V.hsl (List.length h + 2) 5 0 5 true 1) (V.i (I.s (Value.slice none 0 0))) [] ([] ++ [o]) [] := by
            refine rt.upd (fun x hx => at_setT lT hx) (gc_setT lT rfl) (.inr ⟨h.length + 2, by omega, rfl, ?_⟩) (.inl ⟨rfl, rfl⟩) (fun _ _ _ _ _ _ _ e => by cases e)
            rw [gc_ge (by rw [List.length_set]; omega), List.length_set, Nat.add_sub_cancel_left, List.nil_append, rows_one]
            rfl
          exact hn _ _ _ (by omega) ⟨i + 1, _, [] ++ [o], rfl, by omega, by simp, g6, g7, g40, g41, rfl, rt', by rw [if_neg (Nat.succ_ne_zero i), Nat.add_sub_cancel, hoi]; exact hD⟩
        · have rB : ∀ l, getCells (h ++ l) B (acc.length * 5) = some (rows acc) := fun l => gc_app hB
          have lB := gc_lt hB
          have rT2 : ∀ s l, getCells (h.set B s ++ l) T 3 = some [.mp m, .hsl B (acc.length * 5) 0 5 true acc.length, .i (.s (.slice none 0 0))] := fun s l => gc_app (by rw [gc_set (by omega)]; exact rt.tr)
          simp (maxSteps := 2000000) (disch := omega) only [gm, S_dynV, w64_nat, w64_id, nI_add, nI_one, nI_two, nI_sub1, nI_sub, Int.ofNat_lt, Int.ofNat_le, Nat.reduceAdd, Nat.reduceMul, g6, g7, g40, g41, g42, hlt, x1, r1, cellsV_TMove, h0', x2, rv, r2, r3, hne, rT, rB, rT2]
          have rt' : RT ((List.set h B (Slot.cells (rows acc ++ cellsV o)) ++ [Slot.cells (cellsV o), Slot.cells (cellsV o)]).set T (Slot.cells [V.mp m, V.hsl B (acc.length * 5 + 5) 0 5 true (acc.length + 1), V.i (I.s (Value.slice none 0 0))])) b c m T S (V.hsl B (acc.length * 5 + 5) 0 5 true (acc.length + 1)) (V.i (I.s (Value.slice none 0 0))) [] (acc ++ [o]) [] := by
            refine rt.upd (fun x hx => ?_) ?_ (.inr ⟨B, hTB, ?_, ?_⟩) (.inl ⟨rfl, rfl⟩) (fun _ _ _ _ _ _ _ e => by cases e)
            · rw [List.getElem?_set_ne (by omega), List.getElem?_append_left (by rw [List.length_set]; omega), List.getElem?_set_ne (by omega)]
            · exact set_cells (rT2 _ _) rfl
            · rw [List.length_append, List.length_cons, List.length_nil, Nat.add_mul]
            · rw [gc_set (by omega), gc_left (by rw [List.length_set]; omega), gc_set_eq lB, rows_append, rows_one, if_pos (by rw [List.length_append, rows_len, cellsV_len, z_TMove, List.length_append, Nat.add_mul]; rfl)]
          exact hn _ _ _ (by omega) ⟨i + 1, _, acc ++ [o], rfl, by omega, by simp; omega, g6, g7, g40, g41, rfl, rt', by rw [if_neg (Nat.succ_ne_zero i), Nat.add_sub_cancel, hoi]; exact hD⟩
  · simp (maxSteps := 2000000) (disch := omega) only [gm, S_dynV, w64_nat, w64_id, nI_add, nI_one, nI_two, nI_sub1, nI_sub, Int.ofNat_lt, Int.ofNat_le, Nat.reduceAdd, Nat.reduceMul, g6, g7, g40, g41, g42, hlt]
    refine hx _ _ _ (by simp) (hQ _ _ v acc ?_ g7 rt)
    rw [hD, List.drop_of_length_le (by omega)]
    rfl
end Go.AM

set_option linter.unusedVariables false
set_option linter.unusedSimpArgs false
set_option maxRecDepth 20000
namespace Go.AM
open Pic (enc dec dec_enc dec_sub)
open PicA (encA decA decA_encA decA_sub)

theorem snap_own {α : Type} [Pic α] [FlatC α] {z T n : Nat} {f : Bool} {h : Heap} {v : V} {xs : List α} (hz : z = Pic.z α) (ha : Pic.ag α = true) (o : OwnV z T h v xs) : ∃ x, snap (n + 2) f h v = some x ∧ (dec x : Option (List α)) = some xs := by
  rcases o with ⟨rfl, rfl⟩ | ⟨B, _, rfl, hg⟩
  · exact ⟨_, by simp [snap, flat], dec_nil⟩
  · by_cases h0 : xs.length = 0
    · have := List.eq_nil_of_length_eq_zero h0
      subst this
      exact ⟨.sl z [], by simp [snap_hsl], dec_sl0⟩
    · refine ⟨.sl z (xs.map enc), ?_, dec_sl1 hz⟩
      rw [snap_hsl, if_neg h0, hg, Option.bind_some, List.drop_zero, take_rows (by rw [rows_len, hz]; exact Nat.le_refl _), snapA_rowsF, Option.bind_some, mkRows_eq hz ha.symm rfl]

theorem snap_nodes {n : Nat} {f : Bool} {h : Heap} : ∀ (ns : List TNode), (ns.map fun x => V.agg (cellsV x)).mapM (snap (n + 2) f h) = some (ns.map enc)
  | [] => rfl
  | x :: ns => by
    have h1 : snap (n + 2) f h (.agg (cellsV x)) = some (enc x) := by
      rw [snap_agg, cellsV_TNode, enc_TNode]
      simp [snapA_cons, snapA_nil, snap, flat, iN, iS, isS]
    rw [List.map_cons, List.mapM_cons, h1, snap_nodes ns]
    rfl

theorem snap_mp {n : Nat} {f : Bool} {h : Heap} {b : Nat} {ks : List I} {vs : List V} (hb : h[b]? = some (.map ks vs)) : snap (n + 1) f h (.mp b) = (vs.mapM (snap n f h)).map (I.im ks) := by
  show (match h[b]? with | some (.map ks vs) => (vs.mapM (snap n f h)).map (I.im ks) | _ => none) = _
  rw [hb]
theorem RT.snap {h : Heap} {b c m T : Nat} {S : List TMove} {v u : V} {ns : List TNode} {ops : List TMove} {sk : List TStamp} (r : RT h b c m T S v u ns ops sk) (n : Nat) (f : Bool) : ∃ pic, snap (n + 4) f h (.ptr T 3 0) = some pic ∧ (dec pic : Option (Option TTree)) = some (some ⟨ns, ops, sk⟩) := by
  obtain ⟨x, x1, x2⟩ := snap_own (n := n + 1) (f := f) rfl rfl r.lo
  obtain ⟨y, y1, y2⟩ := snap_own (n := n + 1) (f := f) rfl rfl r.ls
  refine ⟨.ip [.im (treeK ns) (ns.map enc), x, y], ?_, ?_⟩
  · have hm : Go.AM.snap (n + 3) f h (.mp m) = some (.im (treeK ns) (ns.map enc)) := by
      rw [snap_mp r.mp, snap_nodes ns]
      rfl
    rw [snap_ptr, r.tr, Option.bind_some, if_pos (by simp), List.drop_zero, snapA_cons, hm, snapA_cons, x1, snapA_cons, y1, snapA_nil]
    rfl
  · show decTr _ = _
    simp only [decTr, decNodes_enc, Option.bind_some, x2, y2, Option.map_some]

theorem RT.setM {h : Heap} {b c m T : Nat} {S : List TMove} {v u : V} {ns ns' : List TNode} {ops : List TMove} {sk : List TStamp} (r : RT h b c m T S v u ns ops sk) : RT (h.set m (.map (treeK ns') (ns'.map fun n => .agg (cellsV n)))) b c m T S v u ns' ops sk := by
  have hm : m < h.length := (List.getElem?_eq_some_iff.1 r.mp).1
  have k : ∀ x g cs, x ≠ m → getCells h x g = some cs → getCells (h.set m (.map (treeK ns') (ns'.map fun n => .agg (cellsV n)))) x g = some cs := fun x g cs hx hg => by rw [gc_set (Ne.symm hx)]; exact hg
  have ko : ∀ {α : Type} [Pic α] {z : Nat} {v : V} {xs : List α}, OwnV z T h v xs → OwnV z T (h.set m (.map (treeK ns') (ns'.map fun n => .agg (cellsV n)))) v xs := fun o => by
    have hmT := r.mT
    rcases o with ⟨h1, h2⟩ | ⟨B, h1, h2, h3⟩
    · exact .inl ⟨h1, h2⟩
    · exact .inr ⟨B, h1, h2, k B _ _ (by omega) h3⟩
  exact ⟨k b _ _ r.bm r.row, k c _ _ r.cm r.var, List.getElem?_set_self hm, k T _ _ (by have := r.mT; omega) r.tr, ko r.lo, ko r.ls, r.bT, r.cT, r.mT, r.bc, r.bm, r.cm, r.dis⟩

theorem grow_loop {t : Nat → V} {P : Program} {env : Env} {Q : Post} {h : Heap} {b c m T f_impl_tree_ring : Nat} {S l : List TMove} {v : V} (ep_impl_tree_ring : env (2 * f_impl_tree_ring) = pureFn true (FA fun a : Option TTree × TMove => p_impl_tree_ring a.1 a.2)) (hl : l.length ≤ 2048)
    (rt : RT h b c m T S v (.i (.s (.slice none 0 0))) [] l []) (g7 : t 7 = .ptr T 3 0) (g81 : t 81 = v) (g82 : t 82 = .i (.s (.int .i64 (l.length : Int)))) (g83 : t 83 = .i (.s (.int .i64 0)))
    (hQ : ∀ t' h' u, t' 7 = .ptr T 3 0 → RT h' b c m T S v u (growM l [] []).1 l (growM l [] []).2 → Q (.exit 4) t' h') :
    @W P env ⟨(.loop (.seq (.ops [(qS 84 (.pu (.n (.ar .lss)) [(.tmp 83), (.tmp 82)]))]) (.seq (.cond (.tmp 84) .skip (.exit 4)) (.seq (.block 5 (.seq (.ops [(qS 85 (.idxS 5 (.tmp 81) (.tmp 83))), (qS 86 (.load 5 true (.tmp 85))), (qS 11 (.allocV [(0, false), (0, false), (0, false), (0, false), (0, false)] [(.int .i64 0), (.int .i64 0), (.int .i64 0), (.int .i64 0), (.string ⟨#[]⟩)])), ⟨.none, (.storeV [(0, false), (0, false), (0, false), (0, false), (0, false)] 5 (.tmp 11) (.tmp 86)), .none, [], .none⟩]) (.seq (.seq (.ops [(qS 87 (.mv (.tmp 7))), (qS 88 (.load 5 true (.tmp 11))), (qS 89 (.call (2 * f_impl_tree_ring) [(.tmp 87), (.tmp 88)]))]) (.cond (.tmp 89) (.seq (.ops [(qS 90 (.mv (.tmp 7))), (qS 91 (.mv (.tmp 7))), (qS 92 (.nilChk (.tmp 91))), (qS 93 (.fieldA 2 (.tmp 92))), (qS 94 (.load 1 false (.tmp 93))), (qS 95 (.fieldA 0 (.tmp 11))), (qS 96 (.load 2 true (.tmp 95))), (qS 97 (.buildSl 2 true 1 [(.int .i64 0), (.int .i64 0)] [(0, (.tmp 96))])), (qS 98 (.append 2 true 16 (.tmp 94) (.tmp 97))), (qS 99 (.nilChk (.tmp 90))), (qS 100 (.fieldA 2 (.tmp 99))), ⟨.none, (.store 1 (.tmp 100) (.tmp 98)), .none, [], .none⟩]) (.exit 5)) .skip)) (.ops [(qS 101 (.mv (.tmp 7))), (qS 102 (.nilChk (.tmp 101))), (qS 103 (.fieldA 0 (.tmp 102))), (qS 104 (.load 1 false (.tmp 103))), (qS 105 (.fieldA 2 (.tmp 11))), (qS 106 (.load 1 false (.tmp 105))), (qS 107 (.fieldA 2 (.tmp 11))), (qS 108 (.load 1 false (.tmp 107))), (qS 109 (.fieldA 3 (.tmp 11))), (qS 110 (.load 1 false (.tmp 109))), (qS 111 (.fieldA 4 (.tmp 11))), (qS 112 (.load 1 false (.tmp 111))), (qS 113 (.build [(.int .i64 0), (.int .i64 0), (.string ⟨#[]⟩)] [(0, (1, (.tmp 108))), (1, (1, (.tmp 110))), (2, (1, (.tmp 112)))])), ⟨.none, (.mapSet false [(.int .i64)] (.tmp 104) (.tmp 106) (.tmp 113)), .none, [], .none⟩])))) (.ops [(qS 114 (.pu (.n (.ar .add)) [(.tmp 83), (ic 1)])), (qS 83 (.mv (.tmp 114)))])))))⟩ t h ⟨Q⟩ := by
  obtain ⟨D, hD⟩ : ∃ D, D = growM l [] [] := ⟨_, rfl⟩
  rw [← hD] at hQ
  refine W_loopK (fun n t h => ∃ (i : Nat) (u : V) (ns : List TNode) (sk : List TStamp), n = l.length - i ∧ i ≤ l.length ∧ sk.length ≤ i ∧ t 7 = .ptr T 3 0 ∧ t 81 = v ∧ t 82 = .i (.s (.int .i64 (l.length : Int))) ∧ t 83 = .i (.s (.int .i64 (i : Int))) ∧
    RT h b c m T S v u ns l sk ∧ D = growM (l.drop i) ns sk) l.length ⟨0, _, [], [], rfl, Nat.zero_le _, Nat.le_refl _, g7, g81, g82, g83, rt, hD⟩ ?_
  clear g7 g81 g82 g83 rt hD
  rintro K n t h hn hx ⟨i, u, ns, sk, rfl, hi, hsi, g7, g81, g82, g83, rt, hD⟩
  by_cases hlt : i < l.length
  · obtain ⟨o, ho⟩ : ∃ o, o = l[i] := ⟨_, rfl⟩
    have hoi : l[i]? = some o := by rw [ho]; exact List.getElem?_eq_getElem hlt
    have hdr : l.drop i = o :: l.drop (i + 1) := by rw [ho, List.getElem_cons_drop]
    rw [hdr] at hD
    rcases rt.lo with ⟨rfl, _⟩ | ⟨B, hTB, hv, hB⟩
    · exact absurd hlt (Nat.not_lt_zero _)
    · have r1 := ldRow hB hoi
      have x1 := idxH hB hlt
      rw [hv] at g81
      rw [growM] at hD
      obtain ⟨pic, sn1, sn2⟩ := (rt.app [Slot.cells (cellsV o)]).snap 5 false
      have hring : p_impl_tree_ring (some ⟨ns, l, sk⟩) o = some (ringN ns o.node 1001 o.parent) := rfl
      have rT : ∀ l2, getCells (h ++ l2) T 3 = some [.mp m, v, u] := fun l2 => gc_app rt.tr
      have lT := gc_lt rt.tr
      have rM : ∀ l2, mapAt (h ++ l2) (.mp m) = some (m, treeK ns, ns.map fun n => .agg (cellsV n)) := fun l2 => by
        simp only [mapAt, (rt.app l2).mp]
      cases hr : ringN ns o.node 1001 o.parent with
      | true =>
        rw [if_pos hr] at hD
        rw [hr] at hring
        rw [cellsV_TMove] at sn1
        rcases rt.ls with ⟨rfl, rfl⟩ | ⟨B2, hTB2, rfl, hB2⟩
        · simp (maxSteps := 2000000) (disch := omega) only [gm, S_dynV, w64_nat, w64_id, nI_add, nI_one, nI_two, nI_sub1, nI_sub, Int.ofNat_lt, Int.ofNat_le, Nat.reduceAdd, Nat.reduceMul, g7, g81, g82, g83, hlt, x1, r1, cellsV_TMove, ep_impl_tree_ring, sn1, sn2, hring, rT]
          have lB0 := gc_lt hB
          have rt' : RT (List.set h T (Slot.cells [V.mp m, v, V.hsl (List.length h + 2) 2 0 2 true 1]) ++ [Slot.cells (cellsV o), Slot.cells (cellsV o.id), Slot.cells (cellsV o.id)]) b c m T S v (V.hsl (List.length h + 2) 2 0 2 true 1) ns l ([] ++ [o.id]) := by
            refine rt.upd (fun x hx => at_setT lT hx) (gc_setT lT rfl) (.inr ⟨B, hTB, hv, ?_⟩) (.inr ⟨h.length + 2, by omega, rfl, ?_⟩) ?_
            · rw [gc_left (by rw [List.length_set]; exact lB0), gc_set (by omega)]; exact hB
            · rw [gc_ge (by rw [List.length_set]; omega), List.length_set, Nat.add_sub_cancel_left, List.nil_append, rows_one]
              rfl
            · intro x g n y g' n' e1 e2
              rw [hv] at e1
              cases e1
              cases e2
              omega
          exact hn _ _ _ (by omega) ⟨i + 1, _, ns, [] ++ [o.id], rfl, by omega, by simp, g7, g81.trans hv.symm, g82, rfl, rt', hD⟩
        · have rB : ∀ l2, getCells (h ++ l2) B2 (sk.length * 2) = some (rows sk) := fun l2 => gc_app hB2
          have lB := gc_lt hB2
          have rT2 : ∀ s l2, getCells (h.set B2 s ++ l2) T 3 = some [.mp m, v, .hsl B2 (sk.length * 2) 0 2 true sk.length] := fun s l2 => gc_app (by rw [gc_set (by omega)]; exact rt.tr)
          simp (maxSteps := 2000000) (disch := omega) only [gm, S_dynV, w64_nat, w64_id, nI_add, nI_one, nI_two, nI_sub1, nI_sub, Int.ofNat_lt, Int.ofNat_le, Nat.reduceAdd, Nat.reduceMul, g7, g81, g82, g83, hlt, x1, r1, cellsV_TMove, ep_impl_tree_ring, sn1, sn2, hring, rT, rB, rT2]
          have lB0 := gc_lt hB
          have hne : B ≠ B2 := rt.dis _ _ _ _ _ _ hv rfl
          have rt' : RT ((List.set h B2 (Slot.cells (rows sk ++ cellsV o.id)) ++ [Slot.cells (cellsV o), Slot.cells (cellsV o.id)]).set T (Slot.cells [V.mp m, v, V.hsl B2 (sk.length * 2 + 2) 0 2 true (sk.length + 1)])) b c m T S v (V.hsl B2 (sk.length * 2 + 2) 0 2 true (sk.length + 1)) ns l (sk ++ [o.id]) := by
            refine rt.upd (fun x hx => ?_) ?_ (.inr ⟨B, hTB, hv, ?_⟩) (.inr ⟨B2, hTB2, ?_, ?_⟩) ?_
            · rw [List.getElem?_set_ne (by omega), List.getElem?_append_left (by rw [List.length_set]; omega), List.getElem?_set_ne (by omega)]
            · exact set_cells (rT2 _ _) rfl
            · rw [gc_set (by omega), gc_left (by rw [List.length_set]; omega), gc_set (Ne.symm hne)]; exact hB
            · rw [List.length_append, List.length_cons, List.length_nil, Nat.add_mul]
            · rw [gc_set (by omega), gc_left (by rw [List.length_set]; omega), gc_set_eq lB, rows_append, rows_one, if_pos (by rw [List.length_append, rows_len, cellsV_len, z_TStamp, List.length_append, Nat.add_mul]; rfl)]
            · intro x g n y g' n' e1 e2
              rw [hv] at e1
              cases e1
              cases e2
              exact hne
          exact hn _ _ _ (by omega) ⟨i + 1, _, ns, sk ++ [o.id], rfl, by omega, by simp; omega, g7, g81.trans hv.symm, g82, rfl, rt', hD⟩
      | false =>
        rw [if_neg (by rw [hr]; exact Bool.false_ne_true)] at hD
        rw [hr] at hring
        rw [cellsV_TMove] at sn1
        simp (maxSteps := 2000000) (disch := omega) only [gm, S_dynV, w64_nat, w64_id, nI_add, nI_one, nI_two, nI_sub1, nI_sub, Int.ofNat_lt, Int.ofNat_le, Nat.reduceAdd, Nat.reduceMul, g7, g81, g82, g83, hlt, x1, r1, cellsV_TMove, ep_impl_tree_ring, sn1, sn2, hring, rT, rM, keyV_int, treeK_keys, fits1]
        have hh := hit_set ns ⟨o.node, o.parent, o.name⟩
        have rt2 := (rt.app [Slot.cells (cellsV o)]).setM (ns' := setN ns ⟨o.node, o.parent, o.name⟩)
        rw [← hh] at rt2
        exact hn _ _ _ (by omega) ⟨i + 1, u, _, sk, rfl, by omega, by omega, g7, g81.trans hv.symm, g82, rfl, rt2, hD⟩
  · simp (maxSteps := 2000000) (disch := omega) only [gm, S_dynV, w64_nat, w64_id, nI_add, nI_one, nI_two, nI_sub1, nI_sub, Int.ofNat_lt, Int.ofNat_le, Nat.reduceAdd, Nat.reduceMul, g7, g81, g82, g83, hlt]
    refine hx _ _ _ (by simp) (hQ _ _ u g7 ?_)
    rw [hD, List.drop_of_length_le (by omega)]
    exact rt
end Go.AM

set_option linter.unusedVariables false
set_option linter.unusedSimpArgs false
set_option maxRecDepth 20000
namespace Go.AM
open Pic (enc dec dec_enc dec_sub)
open PicA (encA decA decA_encA decA_sub)

theorem q_stOK (x : TStamp) : p_impl_StampOK x = some (stOK x) := by
  unfold p_impl_StampOK p_impl_isActor stOK
  simp only [decide_eq_true_eq]
  repeat' split
  all_goals simp only [Option.bind_some, Option.some.injEq]
  all_goals (symm; first | (rw [decide_eq_false_iff_not]; omega) | (apply decide_eq_decide.2; omega))
theorem q_mvOK (x : TMove) : p_impl_moveOK x = some (mvOK x) := by
  unfold p_impl_moveOK mvOK
  simp only [decide_eq_true_eq]
  repeat' split
  all_goals simp only [Option.some.injEq]
  all_goals (symm; first | (rw [decide_eq_false_iff_not]; omega) | (apply decide_eq_decide.2; omega))

/-- sort.Slice over moves, as readTree calls it. -/
def k_sort_Slice (F : Fun) : Prop := ∀ (xs : List TMove) (H : Heap) (b c : Nat), xs.length < 4611686018427387904 → getCells H b (xs.length * 5) = some (rows xs) → c ≠ b → getCells H c 1 = some [.hsl b (xs.length * 5) 0 5 true xs.length] →
  ∃ h', F none [.ifc 65 (.hsl b (xs.length * 5) 0 5 true xs.length), .clo 115 [.ptr c 1 0]] H = some (.tup [], h') ∧ getCells h' b (xs.length * 5) = some (rows (sortL ltM xs)) ∧ Keep [b] H h'

def c_impl_readTree (f_impl_StampOK : Nat) (f_impl_moveOK : Nat) (f_sort_Slice : Nat) (f_impl_tree_ring : Nat) (f_impl_readTree_1 : Nat) : AFn := ⟨116, (.seq (.ops [(qS 2 (.mv (.const (.pointer .none)))), (qS 3 (.mv (ic 0)))]) (.seq (.seq (.ops [(qS 12 (.mv (.tmp 0))), (qS 13 (.len (.tmp 12))), (qS 14 (.pu (.n (.ar .gtr)) [(.tmp 13), (ic 2048)]))]) (.cond (.tmp 14) (.seq (.ops [(qS 2 (.mv (.const (.pointer .none)))), (qS 3 (.mv (ic 2)))]) .ret) .skip)) (.seq (.seq (.ops [(qS 15 (.mv (.tmp 0))), (qS 16 (.len (.tmp 15))), (qS 17 (.mv (ic 0)))]) (.block 0 (.loop (.seq (.ops [(qS 18 (.pu (.n (.ar .lss)) [(.tmp 17), (.tmp 16)]))]) (.seq (.cond (.tmp 18) .skip (.exit 0)) (.seq (.block 1 (.seq (.ops [(qS 19 (.idxS 5 (.tmp 15) (.tmp 17))), (qS 20 (.load 5 true (.tmp 19))), (qS 5 (.allocV [(0, false), (0, false), (0, false), (0, false), (0, false)] [(.int .i64 0), (.int .i64 0), (.int .i64 0), (.int .i64 0), (.string ⟨#[]⟩)])), ⟨.none, (.storeV [(0, false), (0, false), (0, false), (0, false), (0, false)] 5 (.tmp 5) (.tmp 20)), .none, [], .none⟩]) (.seq (.ops [(qS 21 (.fieldA 0 (.tmp 5))), (qS 22 (.load 2 true (.tmp 21))), (qS 23 (.call (2 * f_impl_StampOK) [(.tmp 22)])), (qS 24 (.pu (.n (.un .not)) [(.tmp 23)])), (qS 25 (.mv (.tmp 24))), ⟨(.some 26), (.load 5 true (.tmp 5)), (.some (25, false)), [], .none⟩, ⟨(.some 27), (.call (2 * f_impl_moveOK) [(.tmp 26)]), (.some (25, false)), [], .none⟩, ⟨(.some 28), (.pu (.n (.un .not)) [(.tmp 27)]), (.some (25, false)), [], .none⟩, (qS 29 (.pick (.tmp 25) (.const (.bool true)) (.tmp 28)))]) (.cond (.tmp 29) (.seq (.ops [(qS 2 (.mv (.const (.pointer .none)))), (qS 3 (.mv (ic 1)))]) .ret) .skip)))) (.ops [(qS 30 (.pu (.n (.ar .add)) [(.tmp 17), (ic 1)])), (qS 17 (.mv (.tmp 30)))]))))))) (.seq (.ops [(qS 31 (.mv (.tmp 0))), (qS 32 (.appendV 5 true 48 (.tmp 31))), (qS 6 (.allocV [(5, true)] [(.slice .none 0 0)])), ⟨.none, (.storeV [(5, true)] 1 (.tmp 6) (.tmp 32)), .none, [], .none⟩]) (.seq (.ops [(qS 33 (.load 1 false (.tmp 6))), (qS 34 (.ifc 65 (.tmp 33))), (qS 35 (.clo f_impl_readTree_1 [(.tmp 6)])), (qS 36 (.call (2 * f_sort_Slice + 1) [(.tmp 34), (.tmp 35)]))]) (.seq (.ops [⟨(.some 37), .makeMap, .none, [], .none⟩, (qS 38 (.build [(.map .none), (.slice .none 0 0), (.slice .none 0 0)] [(0, (1, (.tmp 37)))])), (qS 39 (.box (.tmp 38))), (qS 7 (.mv (.tmp 39)))]) (.seq (.seq (.ops [(qS 40 (.load 1 false (.tmp 6))), (qS 41 (.len (.tmp 40))), (qS 42 (.mv (ic 0)))]) (.block 2 (.loop (.seq (.ops [(qS 43 (.pu (.n (.ar .lss)) [(.tmp 42), (.tmp 41)]))]) (.seq (.cond (.tmp 43) .skip (.exit 2)) (.seq (.block 3 (.seq (.ops [(qS 44 (.mv (.tmp 42))), (qS 45 (.idxS 5 (.tmp 40) (.tmp 42))), (qS 46 (.load 5 true (.tmp 45))), (qS 9 (.allocV [(0, false), (0, false), (0, false), (0, false), (0, false)] [(.int .i64 0), (.int .i64 0), (.int .i64 0), (.int .i64 0), (.string ⟨#[]⟩)])), (qS 8 (.mv (.tmp 44))), ⟨.none, (.storeV [(0, false), (0, false), (0, false), (0, false), (0, false)] 5 (.tmp 9) (.tmp 46)), .none, [], .none⟩]) (.seq (.seq (.ops [(qS 47 (.mv (.tmp 8))), (qS 48 (.pu (.n (.ar .gtr)) [(.tmp 47), (ic 0)])), (qS 49 (.mv (.tmp 48))), ⟨(.some 50), (.load 1 false (.tmp 6)), (.some (49, true)), [], .none⟩, ⟨(.some 51), (.mv (.tmp 8)), (.some (49, true)), [], .none⟩, ⟨(.some 52), (.pu (.n (.ar .sub)) [(.tmp 51), (ic 1)]), (.some (49, true)), [], .none⟩, ⟨(.some 53), (.idxS 5 (.tmp 50) (.tmp 52)), (.some (49, true)), [], .none⟩, ⟨(.some 54), (.fieldA 0 (.tmp 53)), (.some (49, true)), [], .none⟩, ⟨(.some 55), (.load 2 true (.tmp 54)), (.some (49, true)), [], .none⟩, ⟨(.some 56), (.fieldA 0 (.tmp 9)), (.some (49, true)), [], .none⟩, ⟨(.some 57), (.load 2 true (.tmp 56)), (.some (49, true)), [], .none⟩, ⟨(.some 58), (.aeq false [(.int .i64), (.int .i64)] (.tmp 55) (.tmp 57)), (.some (49, true)), [], .none⟩, (qS 59 (.pick (.tmp 49) (.tmp 58) (.const (.bool false))))]) (.cond (.tmp 59) (.seq (.seq (.ops [(qS 60 (.load 1 false (.tmp 6))), (qS 61 (.mv (.tmp 8))), (qS 62 (.pu (.n (.ar .sub)) [(.tmp 61), (ic 1)])), (qS 63 (.idxS 5 (.tmp 60) (.tmp 62))), (qS 64 (.load 5 true (.tmp 63))), (qS 65 (.load 5 true (.tmp 9))), (qS 66 (.aeq true [(.int .i64), (.int .i64), (.int .i64), (.int .i64), .str] (.tmp 64) (.tmp 65)))]) (.cond (.tmp 66) (.seq (.ops [(qS 2 (.mv (.const (.pointer .none)))), (qS 3 (.mv (ic 16)))]) .ret) .skip)) (.exit 3)) .skip)) (.ops [(qS 67 (.mv (.tmp 7))), (qS 68 (.mv (.tmp 7))), (qS 69 (.nilChk (.tmp 68))), (qS 70 (.fieldA 1 (.tmp 69))), (qS 71 (.load 1 false (.tmp 70))), (qS 72 (.load 5 true (.tmp 9))), (qS 73 (.buildSl 5 true 1 [(.int .i64 0), (.int .i64 0), (.int .i64 0), (.int .i64 0), (.string ⟨#[]⟩)] [(0, (.tmp 72))])), (qS 74 (.append 5 true 48 (.tmp 71) (.tmp 73))), (qS 75 (.nilChk (.tmp 67))), (qS 76 (.fieldA 1 (.tmp 75))), ⟨.none, (.store 1 (.tmp 76) (.tmp 74)), .none, [], .none⟩])))) (.ops [(qS 77 (.pu (.n (.ar .add)) [(.tmp 42), (ic 1)])), (qS 42 (.mv (.tmp 77)))]))))))) (.seq (.seq (.ops [(qS 78 (.mv (.tmp 7))), (qS 79 (.nilChk (.tmp 78))), (qS 80 (.fieldA 1 (.tmp 79))), (qS 81 (.load 1 false (.tmp 80))), (qS 82 (.len (.tmp 81))), (qS 83 (.mv (ic 0)))]) (.block 4 (.loop (.seq (.ops [(qS 84 (.pu (.n (.ar .lss)) [(.tmp 83), (.tmp 82)]))]) (.seq (.cond (.tmp 84) .skip (.exit 4)) (.seq (.block 5 (.seq (.ops [(qS 85 (.idxS 5 (.tmp 81) (.tmp 83))), (qS 86 (.load 5 true (.tmp 85))), (qS 11 (.allocV [(0, false), (0, false), (0, false), (0, false), (0, false)] [(.int .i64 0), (.int .i64 0), (.int .i64 0), (.int .i64 0), (.string ⟨#[]⟩)])), ⟨.none, (.storeV [(0, false), (0, false), (0, false), (0, false), (0, false)] 5 (.tmp 11) (.tmp 86)), .none, [], .none⟩]) (.seq (.seq (.ops [(qS 87 (.mv (.tmp 7))), (qS 88 (.load 5 true (.tmp 11))), (qS 89 (.call (2 * f_impl_tree_ring) [(.tmp 87), (.tmp 88)]))]) (.cond (.tmp 89) (.seq (.ops [(qS 90 (.mv (.tmp 7))), (qS 91 (.mv (.tmp 7))), (qS 92 (.nilChk (.tmp 91))), (qS 93 (.fieldA 2 (.tmp 92))), (qS 94 (.load 1 false (.tmp 93))), (qS 95 (.fieldA 0 (.tmp 11))), (qS 96 (.load 2 true (.tmp 95))), (qS 97 (.buildSl 2 true 1 [(.int .i64 0), (.int .i64 0)] [(0, (.tmp 96))])), (qS 98 (.append 2 true 16 (.tmp 94) (.tmp 97))), (qS 99 (.nilChk (.tmp 90))), (qS 100 (.fieldA 2 (.tmp 99))), ⟨.none, (.store 1 (.tmp 100) (.tmp 98)), .none, [], .none⟩]) (.exit 5)) .skip)) (.ops [(qS 101 (.mv (.tmp 7))), (qS 102 (.nilChk (.tmp 101))), (qS 103 (.fieldA 0 (.tmp 102))), (qS 104 (.load 1 false (.tmp 103))), (qS 105 (.fieldA 2 (.tmp 11))), (qS 106 (.load 1 false (.tmp 105))), (qS 107 (.fieldA 2 (.tmp 11))), (qS 108 (.load 1 false (.tmp 107))), (qS 109 (.fieldA 3 (.tmp 11))), (qS 110 (.load 1 false (.tmp 109))), (qS 111 (.fieldA 4 (.tmp 11))), (qS 112 (.load 1 false (.tmp 111))), (qS 113 (.build [(.int .i64 0), (.int .i64 0), (.string ⟨#[]⟩)] [(0, (1, (.tmp 108))), (1, (1, (.tmp 110))), (2, (1, (.tmp 112)))])), ⟨.none, (.mapSet false [(.int .i64)] (.tmp 104) (.tmp 106) (.tmp 113)), .none, [], .none⟩])))) (.ops [(qS 114 (.pu (.n (.ar .add)) [(.tmp 83), (ic 1)])), (qS 83 (.mv (.tmp 114)))]))))))) (.seq (.ops [(qS 115 (.mv (.tmp 7))), (qS 2 (.mv (.tmp 115))), (qS 3 (.mv (ic 0)))]) .ret))))))))), [(.tmp 2), (.tmp 3)]⟩


theorem scan_ok {t : Nat → V} {P : Program} {env : Env} {Q : Post} {h : Heap} {f_impl_StampOK f_impl_moveOK : Nat} (ep_impl_StampOK : env (2 * f_impl_StampOK) = pureFn true (FA fun a : TStamp => p_impl_StampOK a)) (ep_impl_moveOK : env (2 * f_impl_moveOK) = pureFn true (FA fun a : TMove => p_impl_moveOK a))
    {x0 : List TMove} (hlen : x0.length ≤ 2048) (g0 : t 0 = .i (.sl 5 (x0.map enc))) (g15 : t 15 = .i (.sl 5 (x0.map enc))) (g16 : t 16 = .i (.s (.int .i64 (x0.length : Int)))) (g17 : t 17 = .i (.s (.int .i64 0)))
    (hQ : ∀ t' h', t' 0 = .i (.sl 5 (x0.map enc)) → x0.all (fun o => stOK o.id && mvOK o) = true → Q (.exit 0) t' h')
    (hR : ∀ t' h', t' 2 = .i (.s (.pointer none)) → t' 3 = .i (.s (.int .i64 1)) → x0.all (fun o => stOK o.id && mvOK o) = false → Q .ret t' h') :
    @W P env ⟨(.loop (.seq (.ops [(qS 18 (.pu (.n (.ar .lss)) [(.tmp 17), (.tmp 16)]))]) (.seq (.cond (.tmp 18) .skip (.exit 0)) (.seq (.block 1 (.seq (.ops [(qS 19 (.idxS 5 (.tmp 15) (.tmp 17))), (qS 20 (.load 5 true (.tmp 19))), (qS 5 (.allocV [(0, false), (0, false), (0, false), (0, false), (0, false)] [(.int .i64 0), (.int .i64 0), (.int .i64 0), (.int .i64 0), (.string ⟨#[]⟩)])), ⟨.none, (.storeV [(0, false), (0, false), (0, false), (0, false), (0, false)] 5 (.tmp 5) (.tmp 20)), .none, [], .none⟩]) (.seq (.ops [(qS 21 (.fieldA 0 (.tmp 5))), (qS 22 (.load 2 true (.tmp 21))), (qS 23 (.call (2 * f_impl_StampOK) [(.tmp 22)])), (qS 24 (.pu (.n (.un .not)) [(.tmp 23)])), (qS 25 (.mv (.tmp 24))), ⟨(.some 26), (.load 5 true (.tmp 5)), (.some (25, false)), [], .none⟩, ⟨(.some 27), (.call (2 * f_impl_moveOK) [(.tmp 26)]), (.some (25, false)), [], .none⟩, ⟨(.some 28), (.pu (.n (.un .not)) [(.tmp 27)]), (.some (25, false)), [], .none⟩, (qS 29 (.pick (.tmp 25) (.const (.bool true)) (.tmp 28)))]) (.cond (.tmp 29) (.seq (.ops [(qS 2 (.mv (.const (.pointer .none)))), (qS 3 (.mv (ic 1)))]) .ret) .skip)))) (.ops [(qS 30 (.pu (.n (.ar .add)) [(.tmp 17), (ic 1)])), (qS 17 (.mv (.tmp 30)))])))))⟩ t h ⟨Q⟩ := by
  refine W_loopK (fun n t h => ∃ i : Nat, n = x0.length - i ∧ i ≤ x0.length ∧ t 0 = .i (.sl 5 (x0.map enc)) ∧ t 15 = .i (.sl 5 (x0.map enc)) ∧ t 16 = .i (.s (.int .i64 (x0.length : Int))) ∧ t 17 = .i (.s (.int .i64 (i : Int))) ∧ (x0.take i).all (fun o => stOK o.id && mvOK o) = true) x0.length ⟨0, rfl, Nat.zero_le _, g0, g15, g16, g17, by simp⟩ ?_
  clear g0 g15 g16 g17
  rintro K n t h hn hx ⟨i, rfl, hi, g0, g15, g16, g17, ha⟩
  by_cases hlt : i < x0.length
  · obtain ⟨o, ho⟩ : ∃ o, o = x0[i] := ⟨_, rfl⟩
    have hoi : x0[i]? = some o := by rw [ho]; exact List.getElem?_eq_getElem hlt
    have hget : get? x0 (i : Int) = some o := by rw [get_nat]; exact hoi
    have hspl : x0 = x0.take i ++ o :: x0.drop (i + 1) := by rw [ho, List.getElem_cons_drop, List.take_append_drop]
    cases hs : stOK o.id with
    | false =>
      simp (maxSteps := 2000000) (disch := omega) only [gm, S_dynV, w64_nat, w64_id, nI_add, nI_one, nI_two, nI_sub1, nI_sub, Int.ofNat_lt, Int.ofNat_le, Nat.reduceAdd, Nat.reduceMul, g0, g15, g16, g17, hlt, hget, enc_TMove, ep_impl_StampOK, q_stOK, hs]
      exact hx _ _ _ (by simp) (hR _ _ rfl rfl (by rw [hspl, List.all_append, List.all_cons, hs]; simp))
    | true =>
      cases hm : mvOK o with
      | false =>
        simp (maxSteps := 2000000) (disch := omega) only [gm, S_dynV, w64_nat, w64_id, nI_add, nI_one, nI_two, nI_sub1, nI_sub, Int.ofNat_lt, Int.ofNat_le, Nat.reduceAdd, Nat.reduceMul, g0, g15, g16, g17, hlt, hget, enc_TMove, ep_impl_StampOK, q_stOK, hs, ep_impl_moveOK, q_mvOK, hm]
        exact hx _ _ _ (by simp) (hR _ _ rfl rfl (by rw [hspl, List.all_append, List.all_cons, hs, hm]; simp))
      | true =>
        simp (maxSteps := 2000000) (disch := omega) only [gm, S_dynV, w64_nat, w64_id, nI_add, nI_one, nI_two, nI_sub1, nI_sub, Int.ofNat_lt, Int.ofNat_le, Nat.reduceAdd, Nat.reduceMul, g0, g15, g16, g17, hlt, hget, enc_TMove, ep_impl_StampOK, q_stOK, hs, ep_impl_moveOK, q_mvOK, hm]
        exact hn _ _ _ (by omega) ⟨i + 1, rfl, by omega, g0, g15, g16, rfl, by rw [List.take_succ_eq_append_getElem hlt, List.all_append, ha, ← ho]; simp [hs, hm]⟩
  · simp (maxSteps := 2000000) (disch := omega) only [gm, S_dynV, w64_nat, w64_id, nI_add, nI_one, nI_two, nI_sub1, nI_sub, Int.ofNat_lt, Int.ofNat_le, Nat.reduceAdd, Nat.reduceMul, g0, g15, g16, g17, hlt]
    refine hx _ _ _ (by simp) (hQ _ _ g0 ?_)
    rw [← ha, List.take_of_length_le (by omega)]

theorem ltM_swo : Go.Sort.SWO ltM where
  irrefl x := by unfold ltM; rw [decide_eq_false_iff_not]; omega
  trans x y z h1 h2 := by
    unfold ltM at *
    rw [decide_eq_true_eq] at *
    omega
  ntrans x y z h1 h2 := by
    unfold ltM at *
    rw [decide_eq_false_iff_not] at *
    omega

theorem dedM_len : ∀ (S : List TMove) (p : Option TMove) (acc l : List TMove), dedM p S acc = some l → l.length ≤ acc.length + S.length
  | [], p, acc, l, h => by
    cases h
    simp
  | o :: S, p, acc, l, h => by
    have ih := dedM_len S
    cases p with
    | none =>
      have := ih _ _ _ h
      simp only [List.length_append, List.length_cons, List.length_nil] at this ⊢
      omega
    | some q =>
      simp only [dedM] at h
      split at h
      · split at h
        · have := ih _ _ _ h
          simp only [List.length_cons]
          omega
        · cases h
      · have := ih _ _ _ h
        simp only [List.length_append, List.length_cons, List.length_nil] at this ⊢
        omega

theorem dec_trn : (dec (.s (.pointer none)) : Option (Option TTree)) = some none := rfl
theorem appV_moves (h : Heap) (x0 : List TMove) (hl : x0.length ≤ 2048) : ∃ h1, stepAppend none 5 true 48 (h ++ [Slot.virt]) (rows x0) x0.length (V.hsl (List.length h) 0 0 5 true 0) = some (.hsl h.length (x0.length * 5) 0 5 true x0.length, h1) ∧ getCells h1 h.length (x0.length * 5) = some (rows x0) ∧ h1.length = h.length + 1 := by
  have hg : getCells (h ++ [Slot.virt]) h.length 0 = some [] := by rw [gc_right0]; rfl
  rw [app_hsl, if_pos ⟨.inl rfl, rfl⟩, hg, Option.bind_some]
  by_cases h0 : x0.length = 0
  · rw [if_pos h0]
    have : x0 = [] := List.eq_nil_of_length_eq_zero h0
    subst this
    exact ⟨_, rfl, hg, by simp⟩
  · rw [if_neg h0, if_pos (by omega), if_pos (by omega)]
    refine ⟨_, by rw [Nat.zero_add, Nat.zero_add], ?_, by simp⟩
    rw [List.nil_append]
    exact set_cells hg (by rw [rows_len]; rfl)

theorem d_impl_readTree {P : Program} {env : Env} {f_impl_StampOK f_impl_moveOK f_impl_tree_ring f_sort_Slice : Nat} (ep_impl_StampOK : env (2 * f_impl_StampOK) = pureFn true (FA fun a : TStamp => p_impl_StampOK a)) (ep_impl_moveOK : env (2 * f_impl_moveOK) = pureFn true (FA fun a : TMove => p_impl_moveOK a))
    (ep_impl_tree_ring : env (2 * f_impl_tree_ring) = pureFn true (FA fun a : Option TTree × TMove => p_impl_tree_ring a.1 a.2)) (ex_sort_Slice : k_sort_Slice (env (2 * f_sort_Slice + 1))) (x0 : List TMove) {b : T2 (Option TTree) Int} (hp : p_impl_readTree x0 = some b) : R P env (c_impl_readTree f_impl_StampOK f_impl_moveOK f_sort_Slice f_impl_tree_ring 115) ((encA (x0)).map ofI) [] (Tells true b) := by
  refine R_of (by simp [c_impl_readTree, encA]) ?_
  unfold c_impl_readTree
  have hp : b = treeM x0 := (Option.some.inj hp).symm
  subst hp
  unfold treeM
  by_cases hl : 2048 < x0.length
  · rw [if_pos hl]
    have hl' : (2048 : Int) < (x0.length : Int) := by omega
    simp (maxSteps := 2000000) (disch := omega) only [gm, S_dynV, w64_nat, w64_id, nI_add, nI_one, nI_two, nI_sub1, nI_sub, Int.ofNat_lt, Int.ofNat_le, Nat.reduceAdd, Nat.reduceMul, hl', enc_T2, enc_tn, dec_trn]
  · rw [if_neg hl]
    have hl' : ¬ (2048 : Int) < (x0.length : Int) := by omega
    simp (maxSteps := 2000000) (disch := omega) only [gm, S_dynV, w64_nat, w64_id, nI_add, nI_one, nI_two, nI_sub1, nI_sub, Int.ofNat_lt, Int.ofNat_le, Nat.reduceAdd, Nat.reduceMul, hl']
    refine scan_ok ep_impl_StampOK ep_impl_moveOK (x0 := x0) (by omega) rfl rfl rfl rfl ?_ ?_
    · intro t h g0 ha
      rw [if_neg (by rw [ha]; simp)]
      obtain ⟨h1, e1, e2, e3⟩ := appV_moves h x0 (by omega)
      have hvar : getCells (h1 ++ [Slot.virt, Slot.cells [V.hsl h.length (x0.length * 5) 0 5 true x0.length]]) (h1.length + 1) 1 = some [V.hsl h.length (x0.length * 5) 0 5 true x0.length] := by rw [gc_right]; rfl
      obtain ⟨h2, s1, s2, s3⟩ := ex_sort_Slice x0 (h1 ++ [Slot.virt, Slot.cells [V.hsl h.length (x0.length * 5) 0 5 true x0.length]]) h.length (h1.length + 1) (by omega) (gc_app e2) (by omega) hvar
      have hv2 : getCells h2 (h1.length + 1) 1 = some [V.hsl h.length (x0.length * 5) 0 5 true x0.length] := by
        rw [← hvar]
        exact getCells_congr (s3.at_ _ (by simp) (by simp; omega))
      have hl2 := s3.len
      simp only [List.length_append, List.length_cons, List.length_nil] at hl2
      simp (maxSteps := 2000000) (disch := omega) only [gm, S_dynV, w64_nat, w64_id, nI_add, nI_one, nI_two, nI_sub1, nI_sub, Int.ofNat_lt, Int.ofNat_le, Nat.reduceAdd, Nat.reduceMul, g0, lenV_pic, src_pic, e1, s1, hv2]
      have hlen : (sortL ltM x0).length = x0.length := Go.AM.sortL_len ltM_swo x0
      rw [← hlen] at s2 hv2
      have rt0 : RT (h2 ++ [Slot.map [] [], Slot.cells [V.mp (List.length h2), V.i (I.s (Value.slice none 0 0)), V.i (I.s (Value.slice none 0 0))]]) h.length (h1.length + 1) h2.length (h2.length + 1) (sortL ltM x0) (.i (.s (.slice none 0 0))) (.i (.s (.slice none 0 0))) [] [] [] := by
        refine ⟨gc_app s2, gc_app hv2, ?_, ?_, .inl ⟨rfl, rfl⟩, .inl ⟨rfl, rfl⟩, by omega, by omega, by omega, by omega, by omega, by omega, fun _ _ _ _ _ _ _ e => by cases e⟩
        · rw [List.getElem?_append_right (by omega), Nat.sub_self]
          rfl
        · rw [gc_right]
          rfl
      have hS : (sortL ltM x0).length ≤ 2048 := by omega
      rw [← hlen]
      generalize sortL ltM x0 = S at hS rt0
      refine dedup_loop hS rt0 rfl rfl rfl rfl rfl ?_ ?_
      · clear rt0 hv2 s3 s2 s1 hvar e1 e2 e3 g0
        intro t h v l hd g7 rt
        rw [hd]
        have hll : l.length ≤ 2048 := by
          have := dedM_len S none [] l hd
          simp only [List.length_nil] at this
          omega
        have rT := rt.tr
        rcases rt.lo with ⟨rfl, rfl⟩ | ⟨B, hTB, rfl, hB⟩
        · simp (maxSteps := 2000000) (disch := omega) only [gm, S_dynV, w64_nat, w64_id, nI_add, nI_one, nI_two, nI_sub1, nI_sub, Int.ofNat_lt, Int.ofNat_le, Nat.reduceAdd, Nat.reduceMul, g7, rT]
          refine grow_loop ep_impl_tree_ring hll rt g7 rfl rfl rfl ?_
          clear g7 rt rT
          clear t h
          intro t h u g7 rt
          obtain ⟨pic, sn1, sn2⟩ := rt.snap 4 true
          simp (maxSteps := 2000000) (disch := omega) only [gm, S_dynV, w64_nat, w64_id, nI_add, nI_one, nI_two, nI_sub1, nI_sub, Int.ofNat_lt, Int.ofNat_le, Nat.reduceAdd, Nat.reduceMul, g7, sn1, sn2]
        · simp (maxSteps := 2000000) (disch := omega) only [gm, S_dynV, w64_nat, w64_id, nI_add, nI_one, nI_two, nI_sub1, nI_sub, Int.ofNat_lt, Int.ofNat_le, Nat.reduceAdd, Nat.reduceMul, g7, rT]
          refine grow_loop ep_impl_tree_ring hll rt g7 rfl rfl rfl ?_
          clear g7 rt rT
          clear hB
          clear t h
          intro t h u g7 rt
          obtain ⟨pic, sn1, sn2⟩ := rt.snap 4 true
          simp (maxSteps := 2000000) (disch := omega) only [gm, S_dynV, w64_nat, w64_id, nI_add, nI_one, nI_two, nI_sub1, nI_sub, Int.ofNat_lt, Int.ofNat_le, Nat.reduceAdd, Nat.reduceMul, g7, sn1, sn2]
      · intro hd t h g2 g3
        rw [hd]
        simp (maxSteps := 2000000) (disch := omega) only [gm, S_dynV, w64_nat, w64_id, nI_add, nI_one, nI_two, nI_sub1, nI_sub, Int.ofNat_lt, Int.ofNat_le, Nat.reduceAdd, Nat.reduceMul, g2, g3, dec_trn]
    · intro t h g2 g3 ha
      rw [if_pos ha]
      simp (maxSteps := 2000000) (disch := omega) only [gm, S_dynV, w64_nat, w64_id, nI_add, nI_one, nI_two, nI_sub1, nI_sub, Int.ofNat_lt, Int.ofNat_le, Nat.reduceAdd, Nat.reduceMul, g2, g3, dec_trn]
end Go.AM

set_option linter.unusedVariables false
set_option linter.unusedSimpArgs false
set_option maxRecDepth 20000
namespace Go.AM
open Pic (enc dec dec_enc dec_sub)
open PicA (encA decA decA_encA decA_sub)

def underN : Nat → List Int → Int → Int → Option Bool
  | 0, _, _, _ => none
  | n + 1, ps, a, top => if a ≤ 0 then some false else if a = top then some true else (get? ps a).bind fun p => underN n ps p top
noncomputable def p_spec_l06Forest_under (x0 : TForest) (x1 x2 : Int) : Option Bool := fixP fun n => underN n x0.parent x1 x2
theorem enc_fo {f : TForest} : enc f = .ip [.sl 1 (f.parent.map enc), .sl 1 (f.name.map enc), .sl 2 (f.skipped.map enc)] := rfl

def c_spec_l06Forest_under : AFn := ⟨19, (.seq (.ops [(qS 6 (.mv (.const (.bool false))))]) (.seq (.block 0 (.loop (.seq (.seq (.ops [(qS 7 (.mv (.tmp 1))), (qS 8 (.pu (.n (.ar .gtr)) [(.tmp 7), (ic 0)]))]) (.cond (.tmp 8) .skip (.exit 0))) (.block 1 (.seq (.seq (.ops [(qS 9 (.mv (.tmp 1))), (qS 10 (.mv (.tmp 2))), (qS 11 (.pu (.n (.ar .eql)) [(.tmp 9), (.tmp 10)]))]) (.cond (.tmp 11) (.seq (.ops [(qS 6 (.mv (.const (.bool true))))]) .ret) .skip)) (.ops [(qS 12 (.mv (.tmp 0))), (qS 13 (.nilChk (.tmp 12))), (qS 14 (.fieldA 0 (.tmp 13))), (qS 15 (.load 1 false (.tmp 14))), (qS 16 (.mv (.tmp 1))), (qS 17 (.idxS 1 (.tmp 15) (.tmp 16))), (qS 18 (.load 1 false (.tmp 17))), (qS 1 (.mv (.tmp 18)))])))))) (.seq (.ops [(qS 6 (.mv (.const (.bool false))))]) .ret))), [(.tmp 6)]⟩

theorem d_spec_l06Forest_under {P : Program} {env : Env} (x0 : TForest) (x1 x2 : Int) {b : Bool} (hp : p_spec_l06Forest_under x0 x1 x2 = some b) : R P env (c_spec_l06Forest_under) ((encA (x0, x1, x2)).map ofI) [] (Tells true b) := by
  refine R_of (by simp [c_spec_l06Forest_under, encA]) ?_
  unfold c_spec_l06Forest_under
  obtain ⟨n0, hn0⟩ := fixP_some hp
  clear hp
  simp (maxSteps := 2000000) (disch := omega) only [gm, S_dynV, w64_nat, w64_id, nI_add, nI_one, nI_two, nI_sub1, nI_sub, Int.ofNat_lt, Int.ofNat_le, Nat.reduceAdd, Nat.reduceMul, enc_fo]
  refine W_loopK (fun n t' h => ∃ a : Int, t' 0 = .i (.ip [.sl 1 (x0.parent.map enc), .sl 1 (x0.name.map enc), .sl 2 (x0.skipped.map enc)]) ∧ t' 1 = .i (.s (.int .i64 a)) ∧ t' 2 = .i (.s (.int .i64 x2)) ∧ underN n x0.parent a x2 = some b) n0 ⟨x1, rfl, rfl, rfl, hn0⟩ ?_
  clear hn0
  rintro K n t' h hn hx ⟨a, h0, h1, h2, hI⟩
  cases n with
  | zero => cases hI
  | succ n =>
    rw [underN] at hI
    by_cases ha : a ≤ 0
    · rw [if_pos ha] at hI
      cases hI
      have ha' : ¬ 0 < a := by omega
      simp (maxSteps := 2000000) (disch := omega) only [gm, S_dynV, w64_nat, w64_id, nI_add, nI_one, nI_two, nI_sub1, nI_sub, Int.ofNat_lt, Int.ofNat_le, Nat.reduceAdd, Nat.reduceMul, h0, h1, h2, ha']
      refine hx _ _ _ (by simp) ?_
      simp (maxSteps := 2000000) (disch := omega) only [gm, S_dynV, w64_nat, w64_id, nI_add, nI_one, nI_two, nI_sub1, nI_sub, Int.ofNat_lt, Int.ofNat_le, Nat.reduceAdd, Nat.reduceMul]
    · rw [if_neg ha] at hI
      have ha' : 0 < a := by omega
      by_cases he : a = x2
      · rw [if_pos he] at hI
        cases hI
        have he' := decide_eq_true he
        simp (maxSteps := 2000000) (disch := omega) only [gm, S_dynV, w64_nat, w64_id, nI_add, nI_one, nI_two, nI_sub1, nI_sub, Int.ofNat_lt, Int.ofNat_le, Nat.reduceAdd, Nat.reduceMul, h0, h1, h2, ha', he']
        refine hx _ _ _ (by simp) ?_
        simp (maxSteps := 2000000) (disch := omega) only [gm, S_dynV, w64_nat, w64_id, nI_add, nI_one, nI_two, nI_sub1, nI_sub, Int.ofNat_lt, Int.ofNat_le, Nat.reduceAdd, Nat.reduceMul]
      · rw [if_neg he] at hI
        have he' : decide (a = x2) = false := by simp [he]
        obtain ⟨p, hg, hI⟩ := Option.bind_eq_some_iff.1 hI
        simp (maxSteps := 2000000) (disch := omega) only [gm, S_dynV, w64_nat, w64_id, nI_add, nI_one, nI_two, nI_sub1, nI_sub, Int.ofNat_lt, Int.ofNat_le, Nat.reduceAdd, Nat.reduceMul, h0, h1, h2, ha', he', hg, enc_int]
        exact hn _ _ _ (by omega) ⟨p, h0, rfl, h2, hI⟩

def spathN : Nat → TForest → Int → ByteArray → Option (T2 ByteArray Int)
  | 0, _, _, _ => none
  | n + 1, f, a, acc => if a ≤ 0 then some (if a < 0 then ⟨⟨#[]⟩, 7⟩ else ⟨acc, 0⟩) else (get? f.name a).bind fun nm => (cat? ⟨#[47]⟩ nm).bind fun s => (cat? s acc).bind fun s2 => (get? f.parent a).bind fun p => spathN n f p s2

def posM (out : List TMove) (o : TMove) : Nat → Nat
  | 0 => 0
  | a + 1 => match out[a]? with
    | some q => if ltM o q = true then posM out o a else a + 1
    | none => a + 1
def cleanL : List TMove → List TMove → Option (List TMove)
  | [], out => some out
  | o :: l, out => match (if posM out o out.length = 0 then none else out[posM out o out.length - 1]?) with
    | some q => if q.id = o.id then (if q = o then cleanL l out else none) else cleanL l (out.take (posM out o out.length) ++ o :: out.drop (posM out o out.length))
    | none => cleanL l (out.take (posM out o out.length) ++ o :: out.drop (posM out o out.length))
def cleanM (ops : List TMove) : T2 (List TMove) Int :=
  if 2048 < ops.length then ⟨[], 2⟩ else if ops.all (fun o => stOK o.id && mvOK o) = false then ⟨[], 1⟩ else
    match cleanL ops [] with
    | none => ⟨[], 16⟩
    | some l => ⟨l, 0⟩
noncomputable def p_spec_l06Clean (x0 : List TMove) : Option (T2 (List TMove) Int) := some (cleanM x0)

noncomputable def sgrow : List TMove → TForest → Option TForest
  | [], f => some f
  | o :: l, f => (if 0 < o.parent then p_spec_l06Forest_under f o.parent o.node else some false).bind fun u => if u = true then sgrow l ⟨f.parent, f.name, f.skipped ++ [o.id]⟩ else
      if 0 ≤ o.node ∧ o.node < f.parent.length ∧ o.node < f.name.length then sgrow l ⟨f.parent.set o.node.toNat o.parent, f.name.set o.node.toNat o.name, f.skipped⟩ else none
noncomputable def p_spec_l06Grow (x0 : List TMove) : Option TForest := if x0.length ≤ 2048 then sgrow x0 ⟨List.replicate 1001 (-2), List.replicate 1001 ⟨#[]⟩, []⟩ else none

noncomputable def p_spec_TreePath (x0 : List TMove) (x1 : Int) : Option (T2 ByteArray Int) :=
  (p_spec_l06Clean x0).bind fun r => if r.b ≠ 0 then some ⟨⟨#[]⟩, r.b⟩ else (p_spec_l06Grow r.a).bind fun f => if x1 < 1 ∨ 1000 < x1 then some ⟨⟨#[]⟩, 7⟩ else fixP fun n => spathN n f x1 ⟨#[]⟩

def c_spec_TreePath (f_spec_l06Clean : Nat) (f_spec_l06Grow : Nat) : AFn := ⟨48, (.seq (.ops [(qS 4 (.mv (.const (.string ⟨#[]⟩)))), (qS 5 (.mv (ic 0)))]) (.seq (.ops [(qS 11 (.mv (.tmp 0))), (qS 12 (.call (2 * f_spec_l06Clean) [(.tmp 11)])), (qS 10 (.mv (.tmp 12))), (qS 13 (.extract 0 (.tmp 10))), (qS 14 (.extract 1 (.tmp 10))), (qS 6 (.mv (.tmp 13))), (qS 7 (.mv (.tmp 14)))]) (.seq (.seq (.ops [(qS 15 (.mv (.tmp 7))), (qS 16 (.pu (.n (.ar .neq)) [(.tmp 15), (ic 0)]))]) (.cond (.tmp 16) (.seq (.ops [(qS 17 (.mv (.tmp 7))), (qS 4 (.mv (.const (.string ⟨#[]⟩)))), (qS 5 (.mv (.tmp 17)))]) .ret) .skip)) (.seq (.ops [(qS 18 (.mv (.tmp 6))), (qS 19 (.call (2 * f_spec_l06Grow) [(.tmp 18)])), (qS 8 (.mv (.tmp 19)))]) (.seq (.ops [(qS 9 (.mv (.const (.string ⟨#[]⟩))))]) (.seq (.seq (.ops [(qS 20 (.mv (.tmp 1))), (qS 21 (.pu (.n (.ar .lss)) [(.tmp 20), (ic 1)])), (qS 22 (.mv (.tmp 21))), ⟨(.some 23), (.mv (.tmp 1)), (.some (22, false)), [], .none⟩, ⟨(.some 24), (.pu (.n (.ar .gtr)) [(.tmp 23), (ic 1000)]), (.some (22, false)), [], .none⟩, (qS 25 (.pick (.tmp 22) (.const (.bool true)) (.tmp 24)))]) (.cond (.tmp 25) (.seq (.ops [(qS 4 (.mv (.const (.string ⟨#[]⟩)))), (qS 5 (.mv (ic 7)))]) .ret) .skip)) (.seq (.block 0 (.loop (.seq (.seq (.ops [(qS 26 (.mv (.tmp 1))), (qS 27 (.pu (.n (.ar .gtr)) [(.tmp 26), (ic 0)]))]) (.cond (.tmp 27) .skip (.exit 0))) (.block 1 (.seq (.ops [(qS 28 (.mv (.tmp 8))), (qS 29 (.nilChk (.tmp 28))), (qS 30 (.fieldA 1 (.tmp 29))), (qS 31 (.load 1 false (.tmp 30))), (qS 32 (.mv (.tmp 1))), (qS 33 (.idxS 1 (.tmp 31) (.tmp 32))), (qS 34 (.load 1 false (.tmp 33))), (qS 35 (.pu (.n (.ar .add)) [(.const (.string ⟨#[47]⟩)), (.tmp 34)])), (qS 36 (.mv (.tmp 9))), (qS 37 (.pu (.n (.ar .add)) [(.tmp 35), (.tmp 36)])), (qS 9 (.mv (.tmp 37)))]) (.ops [(qS 38 (.mv (.tmp 8))), (qS 39 (.nilChk (.tmp 38))), (qS 40 (.fieldA 0 (.tmp 39))), (qS 41 (.load 1 false (.tmp 40))), (qS 42 (.mv (.tmp 1))), (qS 43 (.idxS 1 (.tmp 41) (.tmp 42))), (qS 44 (.load 1 false (.tmp 43))), (qS 1 (.mv (.tmp 44)))])))))) (.seq (.seq (.ops [(qS 45 (.mv (.tmp 1))), (qS 46 (.pu (.n (.ar .lss)) [(.tmp 45), (ic 0)]))]) (.cond (.tmp 46) (.seq (.ops [(qS 4 (.mv (.const (.string ⟨#[]⟩)))), (qS 5 (.mv (ic 7)))]) .ret) .skip)) (.seq (.ops [(qS 47 (.mv (.tmp 9))), (qS 4 (.mv (.tmp 47))), (qS 5 (.mv (ic 0)))]) .ret))))))))), [(.tmp 4), (.tmp 5)]⟩

theorem d_spec_TreePath {P : Program} {env : Env} {f_spec_l06Clean f_spec_l06Grow : Nat} (ep_spec_l06Clean : env (2 * f_spec_l06Clean) = pureFn true (FA fun a : List TMove => p_spec_l06Clean a)) (ep_spec_l06Grow : env (2 * f_spec_l06Grow) = pureFn true (FA fun a : List TMove => p_spec_l06Grow a)) (x0 : List TMove) (x1 : Int) {b : T2 ByteArray Int} (hp : p_spec_TreePath x0 x1 = some b) : R P env (c_spec_TreePath f_spec_l06Clean f_spec_l06Grow) ((encA (x0, x1)).map ofI) [] (Tells true b) := by
  refine R_of (by simp [c_spec_TreePath, encA]) ?_
  unfold c_spec_TreePath
  unfold p_spec_TreePath at hp
  obtain ⟨⟨l, code⟩, hr, hp⟩ := Option.bind_eq_some_iff.1 hp
  simp only at hp
  by_cases hc : code = 0
  · subst hc
    rw [if_neg (by simp)] at hp
    obtain ⟨f, hf, hp⟩ := Option.bind_eq_some_iff.1 hp
    by_cases h1 : x1 < 1
    · rw [if_pos (.inl h1)] at hp
      cases hp
      simp (maxSteps := 2000000) (disch := omega) only [gm, S_dynV, w64_nat, w64_id, nI_add, nI_one, nI_two, nI_sub1, nI_sub, Int.ofNat_lt, Int.ofNat_le, Nat.reduceAdd, Nat.reduceMul, ep_spec_l06Clean, dslM, hr, enc_T2, ep_spec_l06Grow, hf, enc_fo, h1]
    · by_cases h2 : 1000 < x1
      · rw [if_pos (.inr h2)] at hp
        cases hp
        simp (maxSteps := 2000000) (disch := omega) only [gm, S_dynV, w64_nat, w64_id, nI_add, nI_one, nI_two, nI_sub1, nI_sub, Int.ofNat_lt, Int.ofNat_le, Nat.reduceAdd, Nat.reduceMul, ep_spec_l06Clean, dslM, hr, enc_T2, ep_spec_l06Grow, hf, enc_fo, h1, h2]
      · rw [if_neg (by omega)] at hp
        obtain ⟨n0, hn0⟩ := fixP_some hp
        simp (maxSteps := 2000000) (disch := omega) only [gm, S_dynV, w64_nat, w64_id, nI_add, nI_one, nI_two, nI_sub1, nI_sub, Int.ofNat_lt, Int.ofNat_le, Nat.reduceAdd, Nat.reduceMul, ep_spec_l06Clean, dslM, hr, enc_T2, ep_spec_l06Grow, hf, enc_fo, h1, h2]
        clear hp hf hr
        refine W_loopK (fun n t' h => ∃ (a : Int) (acc : ByteArray), t' 8 = .i (.ip [.sl 1 (f.parent.map enc), .sl 1 (f.name.map enc), .sl 2 (f.skipped.map enc)]) ∧ t' 1 = .i (.s (.int .i64 a)) ∧ t' 9 = .i (.s (.string acc)) ∧ spathN n f a acc = some b) n0 ⟨x1, ⟨#[]⟩, rfl, rfl, rfl, hn0⟩ ?_
        clear hn0 h1 h2
        rintro K n t' h hn hx ⟨a, acc, h8, h1, h9, hI⟩
        cases n with
        | zero => cases hI
        | succ n =>
          rw [spathN] at hI
          by_cases ha : a ≤ 0
          · rw [if_pos ha] at hI
            have ha' : ¬ 0 < a := by omega
            have hI := Option.some.inj hI
            simp (maxSteps := 2000000) (disch := omega) only [gm, S_dynV, w64_nat, w64_id, nI_add, nI_one, nI_two, nI_sub1, nI_sub, Int.ofNat_lt, Int.ofNat_le, Nat.reduceAdd, Nat.reduceMul, h8, h1, h9, ha']
            refine hx _ _ _ (by simp) ?_
            by_cases h0 : a < 0
            · rw [if_pos h0] at hI
              subst hI
              simp (maxSteps := 2000000) (disch := omega) only [gm, S_dynV, w64_nat, w64_id, nI_add, nI_one, nI_two, nI_sub1, nI_sub, Int.ofNat_lt, Int.ofNat_le, Nat.reduceAdd, Nat.reduceMul, h8, h1, h9, h0]
            · rw [if_neg h0] at hI
              subst hI
              simp (maxSteps := 2000000) (disch := omega) only [gm, S_dynV, w64_nat, w64_id, nI_add, nI_one, nI_two, nI_sub1, nI_sub, Int.ofNat_lt, Int.ofNat_le, Nat.reduceAdd, Nat.reduceMul, h8, h1, h9, h0]
          · rw [if_neg ha] at hI
            have ha' : 0 < a := by omega
            obtain ⟨nm, g1, hI⟩ := Option.bind_eq_some_iff.1 hI
            obtain ⟨s1, g2, hI⟩ := Option.bind_eq_some_iff.1 hI
            obtain ⟨s2, g3, hI⟩ := Option.bind_eq_some_iff.1 hI
            obtain ⟨p, g4, hI⟩ := Option.bind_eq_some_iff.1 hI
            simp (maxSteps := 2000000) (disch := omega) only [gm, S_dynV, w64_nat, w64_id, nI_add, nI_one, nI_two, nI_sub1, nI_sub, Int.ofNat_lt, Int.ofNat_le, Nat.reduceAdd, Nat.reduceMul, h8, h1, h9, ha', g1, g2, g3, g4, enc_int, enc_str]
            exact hn _ _ _ (by omega) ⟨p, s2, h8, rfl, rfl, hI⟩
  · rw [if_pos hc] at hp
    cases hp
    have hc' : decide (code = 0) = false := by simp [hc]
    simp (maxSteps := 2000000) (disch := omega) only [gm, S_dynV, w64_nat, w64_id, nI_add, nI_one, nI_two, nI_sub1, nI_sub, Int.ofNat_lt, Int.ofNat_le, Nat.reduceAdd, Nat.reduceMul, ep_spec_l06Clean, dslM, hr, enc_T2, hc']
end Go.AM

set_option linter.unusedVariables false
set_option linter.unusedSimpArgs false
set_option maxRecDepth 20000
namespace Go.AM
open Pic (enc dec dec_enc dec_sub)
open PicA (encA decA decA_encA decA_sub)

structure FT (h : Heap) (A B T N : Nat) (ps : List Int) (ns : List ByteArray) (v : V) (sk : List TStamp) : Prop where
  a : getCells h A N = some (rows ps)
  b : getCells h B N = some (rows ns)
  t : getCells h T 3 = some [.hsl A N 0 1 false N, .hsl B N 0 1 false N, v]
  ls : OwnV 2 T h v sk
  la : ps.length = N
  lb : ns.length = N
  AT : A < T
  BT : B < T
  AB : A ≠ B

theorem idx1 {h : Heap} {b g len : Nat} {i : Int} {cs : List V} (hg : getCells h b g = some cs) (h0 : 0 ≤ i) (hi : i < len) : stepIdxS 1 h i (.hsl b g 0 1 false len) = some (.ptr b g i.toNat) := by
  simp only [stepIdxS, hg]
  rw [if_pos ⟨trivial, h0, hi⟩]
  simp
theorem rows1_set {α : Type} [Pic α] (hz : Pic.z α = 1) {xs : List α} {i : Nat} {x : α} (hi : i < xs.length) : splice (rows xs) i (cellsV x) = rows (xs.set i x) := by
  have h1 : (cellsV x).length = 1 := by rw [cellsV_len, hz]
  have h2 := rows_take i xs
  have h3 := rows_drop (i + 1) xs
  rw [hz, Nat.mul_one] at h2 h3
  unfold splice
  rw [h1, h2, h3, List.set_eq_take_append_cons_drop, if_pos hi, rows_append, rows_cons, List.append_assoc]
theorem st1 {α : Type} [Pic α] (hz : Pic.z α = 1) {h : Heap} {A N i : Nat} {xs : List α} {x : α} {y : V} (hy : cellsV x = [y]) (h1 : y.one = true) (hg : getCells h A N = some (rows xs)) (hl : xs.length = N) (hi : i < N) :
    stepStoreC 1 h [y] (.ptr A N i) = some (h.set A (.cells (rows (xs.set i x)))) := by
  have hr : (rows xs).length = N := by rw [rows_len, hz, hl, Nat.mul_one]
  simp only [stepStoreC, hg, Option.bind_some]
  rw [if_pos ⟨by simp [h1], rfl, by omega⟩, ← hy, rows1_set hz (by omega)]

def c_spec_l06Grow (f_spec_l06Forest_under : Nat) : AFn := ⟨72, (.seq (.ops [(qS 2 (.mv (.const (.pointer .none))))]) (.seq (.opsR 2 [⟨(.some 7), (.makeSl 1 false 8 [(.int .i64 0)] (ic 1001) (ic 1001)), .none, [], (.some 0)⟩, ⟨(.some 8), (.makeSl 1 false 16 [(.string ⟨#[]⟩)] (ic 1001) (ic 1001)), .none, [], (.some 1)⟩, (qS 9 (.build [(.slice .none 0 0), (.slice .none 0 0), (.slice .none 0 0)] [(0, (1, (.tmp 7))), (1, (1, (.tmp 8)))])), (qS 10 (.box (.tmp 9))), (qS 3 (.mv (.tmp 10)))]) (.seq (.seq (.ops [(qS 4 (.mv (ic 0)))]) (.block 0 (.loop (.seq (.seq (.ops [(qS 11 (.mv (.tmp 4))), (qS 12 (.pu (.n (.ar .leq)) [(.tmp 11), (ic 1000)]))]) (.cond (.tmp 12) .skip (.exit 0))) (.seq (.block 1 (.ops [(qS 15 (.mv (.tmp 3))), (qS 16 (.nilChk (.tmp 15))), (qS 17 (.fieldA 0 (.tmp 16))), (qS 18 (.load 1 false (.tmp 17))), (qS 19 (.mv (.tmp 4))), (qS 20 (.idxS 1 (.tmp 18) (.tmp 19))), ⟨.none, (.storeV [(0, false)] 1 (.tmp 20) (ic (-2))), .none, [], .none⟩])) (.ops [(qS 13 (.mv (.tmp 4))), (qS 14 (.pu (.n (.ar .add)) [(.tmp 13), (ic 1)])), (qS 4 (.mv (.tmp 14)))])))))) (.seq (.seq (.ops [(qS 5 (.mv (ic 0)))]) (.block 2 (.loop (.seq (.seq (.ops [(qS 21 (.mv (.tmp 5))), (qS 22 (.mv (.tmp 0))), (qS 23 (.len (.tmp 22))), (qS 24 (.pu (.n (.ar .lss)) [(.tmp 21), (.tmp 23)]))]) (.cond (.tmp 24) .skip (.exit 2))) (.seq (.block 3 (.seq (.ops [(qS 27 (.mv (.tmp 0))), (qS 28 (.mv (.tmp 5))), (qS 29 (.idxS 5 (.tmp 27) (.tmp 28))), (qS 30 (.load 5 true (.tmp 29))), (qS 6 (.allocV [(0, false), (0, false), (0, false), (0, false), (0, false)] [(.int .i64 0), (.int .i64 0), (.int .i64 0), (.int .i64 0), (.string ⟨#[]⟩)])), ⟨.none, (.storeV [(0, false), (0, false), (0, false), (0, false), (0, false)] 5 (.tmp 6) (.tmp 30)), .none, [], .none⟩]) (.seq (.seq (.ops [(qS 31 (.fieldA 3 (.tmp 6))), (qS 32 (.load 1 false (.tmp 31))), (qS 33 (.pu (.n (.ar .gtr)) [(.tmp 32), (ic 0)])), (qS 34 (.mv (.tmp 33))), ⟨(.some 35), (.mv (.tmp 3)), (.some (34, true)), [], .none⟩, ⟨(.some 36), (.fieldA 3 (.tmp 6)), (.some (34, true)), [], .none⟩, ⟨(.some 37), (.load 1 false (.tmp 36)), (.some (34, true)), [], .none⟩, ⟨(.some 38), (.fieldA 2 (.tmp 6)), (.some (34, true)), [], .none⟩, ⟨(.some 39), (.load 1 false (.tmp 38)), (.some (34, true)), [], .none⟩, ⟨(.some 40), (.call (2 * f_spec_l06Forest_under) [(.tmp 35), (.tmp 37), (.tmp 39)]), (.some (34, true)), [], .none⟩, (qS 41 (.pick (.tmp 34) (.tmp 40) (.const (.bool false))))]) (.cond (.tmp 41) (.seq (.ops [(qS 42 (.mv (.tmp 3))), (qS 43 (.mv (.tmp 3))), (qS 44 (.nilChk (.tmp 43))), (qS 45 (.fieldA 2 (.tmp 44))), (qS 46 (.load 1 false (.tmp 45))), (qS 47 (.fieldA 0 (.tmp 6))), (qS 48 (.load 2 true (.tmp 47))), (qS 49 (.buildSl 2 true 1 [(.int .i64 0), (.int .i64 0)] [(0, (.tmp 48))])), (qS 50 (.append 2 true 16 (.tmp 46) (.tmp 49))), (qS 51 (.nilChk (.tmp 42))), (qS 52 (.fieldA 2 (.tmp 51))), ⟨.none, (.store 1 (.tmp 52) (.tmp 50)), .none, [], .none⟩]) (.exit 3)) .skip)) (.seq (.ops [(qS 53 (.mv (.tmp 3))), (qS 54 (.nilChk (.tmp 53))), (qS 55 (.fieldA 0 (.tmp 54))), (qS 56 (.load 1 false (.tmp 55))), (qS 57 (.fieldA 2 (.tmp 6))), (qS 58 (.load 1 false (.tmp 57))), (qS 59 (.fieldA 3 (.tmp 6))), (qS 60 (.load 1 false (.tmp 59))), (qS 61 (.idxS 1 (.tmp 56) (.tmp 58))), ⟨.none, (.store 1 (.tmp 61) (.tmp 60)), .none, [], .none⟩]) (.ops [(qS 62 (.mv (.tmp 3))), (qS 63 (.nilChk (.tmp 62))), (qS 64 (.fieldA 1 (.tmp 63))), (qS 65 (.load 1 false (.tmp 64))), (qS 66 (.fieldA 2 (.tmp 6))), (qS 67 (.load 1 false (.tmp 66))), (qS 68 (.fieldA 4 (.tmp 6))), (qS 69 (.load 1 false (.tmp 68))), (qS 70 (.idxS 1 (.tmp 65) (.tmp 67))), ⟨.none, (.store 1 (.tmp 70) (.tmp 69)), .none, [], .none⟩]))))) (.ops [(qS 25 (.mv (.tmp 5))), (qS 26 (.pu (.n (.ar .add)) [(.tmp 25), (ic 1)])), (qS 5 (.mv (.tmp 26)))])))))) (.seq (.ops [(qS 71 (.mv (.tmp 3))), (qS 2 (.mv (.tmp 71)))]) .ret))))), [(.tmp 2)]⟩

theorem rep_rows {α : Type} [Pic α] {x : α} {c : List V} (hc : cellsV x = c) : ∀ n : Nat, (List.replicate n c).flatten = rows (List.replicate n x)
  | 0 => rfl
  | n + 1 => by rw [List.replicate_succ, List.flatten_cons, rep_rows hc n, List.replicate_succ, rows_cons, hc]

theorem FT.app {h : Heap} {A B T N : Nat} {ps : List Int} {ns : List ByteArray} {v : V} {sk : List TStamp} (f : FT h A B T N ps ns v sk) (l : Heap) : FT (h ++ l) A B T N ps ns v sk :=
  ⟨gc_app f.a, gc_app f.b, gc_app f.t, f.ls.app l, f.la, f.lb, f.AT, f.BT, f.AB⟩
theorem OwnV.set {α : Type} [Pic α] {z T x : Nat} {h : Heap} {v : V} {xs : List α} {s : Slot} (o : OwnV z T h v xs) (hx : x ≤ T) : OwnV z T (h.set x s) v xs := by
  rcases o with ⟨h1, h2⟩ | ⟨B, h1, h2, h3⟩
  · exact .inl ⟨h1, h2⟩
  · exact .inr ⟨B, h1, h2, by rw [gc_set (by omega)]; exact h3⟩
theorem FT.setA {h : Heap} {A B T N : Nat} {ps : List Int} {ns : List ByteArray} {v : V} {sk : List TStamp} (f : FT h A B T N ps ns v sk) (i : Nat) (x : Int) : FT (h.set A (.cells (rows (ps.set i x)))) A B T N (ps.set i x) ns v sk :=
  ⟨set_cells f.a (by rw [rows_len, List.length_set, f.la]; exact Nat.mul_one N), by rw [gc_set f.AB]; exact f.b, by rw [gc_set (by have := f.AT; omega)]; exact f.t, f.ls.set (Nat.le_of_lt f.AT), by rw [List.length_set]; exact f.la, f.lb, f.AT, f.BT, f.AB⟩
theorem FT.setB {h : Heap} {A B T N : Nat} {ps : List Int} {ns : List ByteArray} {v : V} {sk : List TStamp} (f : FT h A B T N ps ns v sk) (i : Nat) (x : ByteArray) : FT (h.set B (.cells (rows (ns.set i x)))) A B T N ps (ns.set i x) v sk :=
  ⟨by rw [gc_set (Ne.symm f.AB)]; exact f.a, set_cells f.b (by rw [rows_len, List.length_set, f.lb]; exact Nat.mul_one N), by rw [gc_set (by have := f.BT; omega)]; exact f.t, f.ls.set (Nat.le_of_lt f.BT), f.la, by rw [List.length_set]; exact f.lb, f.AT, f.BT, f.AB⟩

theorem fill_loop {t : Nat → V} {P : Program} {env : Env} {Q : Post} {h : Heap} {A B T N : Nat} {ps : List Int} {ns : List ByteArray} {v t0 : V} {sk : List TStamp} (hN : N = 1001) (f : FT h A B T N ps ns v sk) (g0 : t 0 = t0) (g3 : t 3 = .ptr T 3 0) (g4 : t 4 = .i (.s (.int .i64 0)))
    (hQ : ∀ t' h', t' 0 = t0 → t' 3 = .ptr T 3 0 → FT h' A B T N (List.replicate N (-2)) ns v sk → Q (.exit 0) t' h') : @W P env ⟨(.loop (.seq (.seq (.ops [(qS 11 (.mv (.tmp 4))), (qS 12 (.pu (.n (.ar .leq)) [(.tmp 11), (ic 1000)]))]) (.cond (.tmp 12) .skip (.exit 0))) (.seq (.block 1 (.ops [(qS 15 (.mv (.tmp 3))), (qS 16 (.nilChk (.tmp 15))), (qS 17 (.fieldA 0 (.tmp 16))), (qS 18 (.load 1 false (.tmp 17))), (qS 19 (.mv (.tmp 4))), (qS 20 (.idxS 1 (.tmp 18) (.tmp 19))), ⟨.none, (.storeV [(0, false)] 1 (.tmp 20) (ic (-2))), .none, [], .none⟩])) (.ops [(qS 13 (.mv (.tmp 4))), (qS 14 (.pu (.n (.ar .add)) [(.tmp 13), (ic 1)])), (qS 4 (.mv (.tmp 14)))]))))⟩ t h ⟨Q⟩ := by
  refine W_loopK (fun n t h => ∃ (i : Nat) (ps : List Int), n = 1001 - i ∧ i ≤ 1001 ∧ t 0 = t0 ∧ t 3 = .ptr T 3 0 ∧ t 4 = .i (.s (.int .i64 (i : Int))) ∧ FT h A B T N ps ns v sk ∧ ∀ j, j < i → ps[j]? = some (-2)) 1001 ⟨0, ps, rfl, by omega, g0, g3, g4, f, fun j h => absurd h (Nat.not_lt_zero _)⟩ ?_
  clear g0 g3 g4 f
  clear ps
  rintro K n t h hn hx ⟨i, ps, rfl, hi, g0, g3, g4, f, ha⟩
  have hA := f.la
  by_cases hlt : i < 1001
  · have hlt' : (i : Int) ≤ 1000 := by omega
    have x1 := idx1 f.a (i := (i : Int)) (by omega) (len := N) (by omega)
    have s1 := st1 (x := (-2 : Int)) (y := .i (.s (.int .i64 (-2)))) rfl rfl rfl f.a hA (i := i) (by omega)
    rw [Int.toNat_natCast] at x1
    have fT := f.t
    simp (maxSteps := 2000000) (disch := omega) only [gm, S_dynV, w64_nat, w64_id, nI_add, nI_one, nI_two, nI_sub1, nI_sub, Int.ofNat_lt, Int.ofNat_le, Nat.reduceAdd, Nat.reduceMul, g3, g4, hlt', fT, x1, s1]
    refine hn _ _ _ (by omega) ⟨i + 1, ps.set i (-2), rfl, by omega, g0, g3, rfl, f.setA i (-2), fun j hj => ?_⟩
    rw [List.getElem?_set]
    by_cases e : i = j
    · rw [if_pos e, if_pos (by omega)]
    · rw [if_neg e, ha j (by omega)]
  · have hlt' : ¬ (i : Int) ≤ 1000 := by omega
    simp (maxSteps := 2000000) (disch := omega) only [gm, S_dynV, w64_nat, w64_id, nI_add, nI_one, nI_two, nI_sub1, nI_sub, Int.ofNat_lt, Int.ofNat_le, Nat.reduceAdd, Nat.reduceMul, g3, g4, hlt']
    refine hx _ _ _ (by simp) (hQ _ _ g0 g3 ?_)
    have : ps = List.replicate N (-2) := by
      apply List.ext_getElem?
      intro j
      by_cases hj : j < N
      · rw [ha j (by omega), List.getElem?_replicate, if_pos hj]
      · rw [List.getElem?_eq_none (by omega), List.getElem?_eq_none (by rw [List.length_replicate]; omega)]
    rw [← this]
    exact f

theorem FT.snap {h : Heap} {A B T N : Nat} {ps : List Int} {ns : List ByteArray} {v : V} {sk : List TStamp} (f : FT h A B T N ps ns v sk) (n : Nat) (fr : Bool) : ∃ pic, snap (n + 4) fr h (.ptr T 3 0) = some pic ∧ (dec pic : Option TForest) = some ⟨ps, ns, sk⟩ := by
  obtain ⟨y, y1, y2⟩ := snap_own (n := n + 1) (f := fr) rfl rfl f.ls
  have ra : ∃ x, Go.AM.snap (n + 3) fr h (.hsl A N 0 1 false N) = some x ∧ (dec x : Option (List Int)) = some ps := by
    by_cases h0 : N = 0
    · have := List.eq_nil_of_length_eq_zero (f.la.trans h0)
      rw [this]
      exact ⟨.sl 1 [], by simp [snap_hsl, h0], dec_sl0⟩
    · refine ⟨.sl 1 (ps.map enc), ?_, dec_sl1 rfl⟩
      rw [snap_hsl, if_neg h0, f.a, Option.bind_some, List.drop_zero, take_rows (by rw [rows_len, f.la]; exact Nat.le_refl _), snapA_rowsF, Option.bind_some, mkRows_eq (α := Int) (z := 1) (ag := false) rfl rfl f.la.symm]
  have rb : ∃ x, Go.AM.snap (n + 3) fr h (.hsl B N 0 1 false N) = some x ∧ (dec x : Option (List ByteArray)) = some ns := by
    by_cases h0 : N = 0
    · have := List.eq_nil_of_length_eq_zero (f.lb.trans h0)
      rw [this]
      exact ⟨.sl 1 [], by simp [snap_hsl, h0], dec_sl0⟩
    · refine ⟨.sl 1 (ns.map enc), ?_, dec_sl1 rfl⟩
      rw [snap_hsl, if_neg h0, f.b, Option.bind_some, List.drop_zero, take_rows (by rw [rows_len, f.lb]; exact Nat.le_refl _), snapA_rowsF, Option.bind_some, mkRows_eq (α := ByteArray) (z := 1) (ag := false) rfl rfl f.lb.symm]
  obtain ⟨x, x1, x2⟩ := ra
  obtain ⟨u, u1, u2⟩ := rb
  refine ⟨.ip [x, u, y], ?_, ?_⟩
  · rw [snap_ptr, f.t, Option.bind_some, if_pos (by simp), List.drop_zero, snapA_cons, x1, snapA_cons, u1, snapA_cons, y1, snapA_nil]
    rfl
  · show decForest _ = _
    simp only [decForest, Option.bind_some, x2, y2, u2, Option.map_some]

theorem FT.setS {h h' : Heap} {A B T N : Nat} {ps : List Int} {ns : List ByteArray} {v v' : V} {sk sk' : List TStamp} (f : FT h A B T N ps ns v sk) (keep : ∀ x, x < T → h'[x]? = h[x]?) (t' : getCells h' T 3 = some [.hsl A N 0 1 false N, .hsl B N 0 1 false N, v']) (ls' : OwnV 2 T h' v' sk') : FT h' A B T N ps ns v' sk' :=
  ⟨(getCells_congr (keep A f.AT)).trans f.a, (getCells_congr (keep B f.BT)).trans f.b, t', ls', f.la, f.lb, f.AT, f.BT, f.AB⟩

theorem sgrow_loop {t : Nat → V} {P : Program} {env : Env} {Q : Post} {h : Heap} {A B T N f_spec_l06Forest_under : Nat} (ep_spec_l06Forest_under : env (2 * f_spec_l06Forest_under) = pureFn true (FA fun a : TForest × Int × Int => p_spec_l06Forest_under a.1 a.2.1 a.2.2)) {x0 : List TMove} {b f0 : TForest} (hl : x0.length ≤ 2048) {v : V}
    (f : FT h A B T N f0.parent f0.name v f0.skipped) (hsk : f0.skipped = []) (hp : sgrow x0 f0 = some b) (g0 : t 0 = .i (.sl 5 (x0.map enc))) (g3 : t 3 = .ptr T 3 0) (g5 : t 5 = .i (.s (.int .i64 0)))
    (hQ : ∀ t' h' v, t' 3 = .ptr T 3 0 → FT h' A B T N b.parent b.name v b.skipped → Q (.exit 2) t' h') : @W P env ⟨(.loop (.seq (.seq (.ops [(qS 21 (.mv (.tmp 5))), (qS 22 (.mv (.tmp 0))), (qS 23 (.len (.tmp 22))), (qS 24 (.pu (.n (.ar .lss)) [(.tmp 21), (.tmp 23)]))]) (.cond (.tmp 24) .skip (.exit 2))) (.seq (.block 3 (.seq (.ops [(qS 27 (.mv (.tmp 0))), (qS 28 (.mv (.tmp 5))), (qS 29 (.idxS 5 (.tmp 27) (.tmp 28))), (qS 30 (.load 5 true (.tmp 29))), (qS 6 (.allocV [(0, false), (0, false), (0, false), (0, false), (0, false)] [(.int .i64 0), (.int .i64 0), (.int .i64 0), (.int .i64 0), (.string ⟨#[]⟩)])), ⟨.none, (.storeV [(0, false), (0, false), (0, false), (0, false), (0, false)] 5 (.tmp 6) (.tmp 30)), .none, [], .none⟩]) (.seq (.seq (.ops [(qS 31 (.fieldA 3 (.tmp 6))), (qS 32 (.load 1 false (.tmp 31))), (qS 33 (.pu (.n (.ar .gtr)) [(.tmp 32), (ic 0)])), (qS 34 (.mv (.tmp 33))), ⟨(.some 35), (.mv (.tmp 3)), (.some (34, true)), [], .none⟩, ⟨(.some 36), (.fieldA 3 (.tmp 6)), (.some (34, true)), [], .none⟩, ⟨(.some 37), (.load 1 false (.tmp 36)), (.some (34, true)), [], .none⟩, ⟨(.some 38), (.fieldA 2 (.tmp 6)), (.some (34, true)), [], .none⟩, ⟨(.some 39), (.load 1 false (.tmp 38)), (.some (34, true)), [], .none⟩, ⟨(.some 40), (.call (2 * f_spec_l06Forest_under) [(.tmp 35), (.tmp 37), (.tmp 39)]), (.some (34, true)), [], .none⟩, (qS 41 (.pick (.tmp 34) (.tmp 40) (.const (.bool false))))]) (.cond (.tmp 41) (.seq (.ops [(qS 42 (.mv (.tmp 3))), (qS 43 (.mv (.tmp 3))), (qS 44 (.nilChk (.tmp 43))), (qS 45 (.fieldA 2 (.tmp 44))), (qS 46 (.load 1 false (.tmp 45))), (qS 47 (.fieldA 0 (.tmp 6))), (qS 48 (.load 2 true (.tmp 47))), (qS 49 (.buildSl 2 true 1 [(.int .i64 0), (.int .i64 0)] [(0, (.tmp 48))])), (qS 50 (.append 2 true 16 (.tmp 46) (.tmp 49))), (qS 51 (.nilChk (.tmp 42))), (qS 52 (.fieldA 2 (.tmp 51))), ⟨.none, (.store 1 (.tmp 52) (.tmp 50)), .none, [], .none⟩]) (.exit 3)) .skip)) (.seq (.ops [(qS 53 (.mv (.tmp 3))), (qS 54 (.nilChk (.tmp 53))), (qS 55 (.fieldA 0 (.tmp 54))), (qS 56 (.load 1 false (.tmp 55))), (qS 57 (.fieldA 2 (.tmp 6))), (qS 58 (.load 1 false (.tmp 57))), (qS 59 (.fieldA 3 (.tmp 6))), (qS 60 (.load 1 false (.tmp 59))), (qS 61 (.idxS 1 (.tmp 56) (.tmp 58))), ⟨.none, (.store 1 (.tmp 61) (.tmp 60)), .none, [], .none⟩]) (.ops [(qS 62 (.mv (.tmp 3))), (qS 63 (.nilChk (.tmp 62))), (qS 64 (.fieldA 1 (.tmp 63))), (qS 65 (.load 1 false (.tmp 64))), (qS 66 (.fieldA 2 (.tmp 6))), (qS 67 (.load 1 false (.tmp 66))), (qS 68 (.fieldA 4 (.tmp 6))), (qS 69 (.load 1 false (.tmp 68))), (qS 70 (.idxS 1 (.tmp 65) (.tmp 67))), ⟨.none, (.store 1 (.tmp 70) (.tmp 69)), .none, [], .none⟩]))))) (.ops [(qS 25 (.mv (.tmp 5))), (qS 26 (.pu (.n (.ar .add)) [(.tmp 25), (ic 1)])), (qS 5 (.mv (.tmp 26)))]))))⟩ t h ⟨Q⟩ := by
  refine W_loopK (fun n t h => ∃ (i : Nat) (v : V) (ps : List Int) (ns : List ByteArray) (sk : List TStamp), n = x0.length - i ∧ i ≤ x0.length ∧ sk.length ≤ i ∧ t 0 = .i (.sl 5 (x0.map enc)) ∧ t 3 = .ptr T 3 0 ∧ t 5 = .i (.s (.int .i64 (i : Int))) ∧
    FT h A B T N ps ns v sk ∧ sgrow (x0.drop i) ⟨ps, ns, sk⟩ = some b) x0.length ⟨0, v, f0.parent, f0.name, f0.skipped, rfl, Nat.zero_le _, by rw [hsk]; exact Nat.le_refl _, g0, g3, g5, f, hp⟩ ?_
  clear g0 g3 g5 f hp hsk v
  rintro K n t h hn hx ⟨i, v, ps, ns, sk, rfl, hi, hsi, g0, g3, g5, f, hp⟩
  by_cases hlt : i < x0.length
  · obtain ⟨o, ho⟩ : ∃ o, o = x0[i] := ⟨_, rfl⟩
    have hoi : x0[i]? = some o := by rw [ho]; exact List.getElem?_eq_getElem hlt
    have hget : get? x0 (i : Int) = some o := by rw [get_nat]; exact hoi
    have hdr : x0.drop i = o :: x0.drop (i + 1) := by rw [ho, List.getElem_cons_drop]
    rw [hdr, sgrow] at hp
    obtain ⟨u, hu, hp⟩ := Option.bind_eq_some_iff.1 hp
    obtain ⟨pic, sn1, sn2⟩ := (f.app [Slot.cells (cellsV o)]).snap 5 false
    rw [cellsV_TMove] at sn1
    have fT : ∀ l2, getCells (h ++ l2) T 3 = some [.hsl A N 0 1 false N, .hsl B N 0 1 false N, v] := fun l2 => gc_app f.t
    have lT := gc_lt f.t
    cases u with
    | true =>
      rw [if_pos rfl] at hp
      have hpo : 0 < o.parent := by
        by_cases h0 : 0 < o.parent
        · exact h0
        · rw [if_neg h0] at hu; cases hu
      rw [if_pos hpo] at hu
      rcases f.ls with ⟨rfl, rfl⟩ | ⟨B2, hTB2, rfl, hB2⟩
      · simp (maxSteps := 2000000) (disch := omega) only [gm, S_dynV, w64_nat, w64_id, nI_add, nI_one, nI_two, nI_sub1, nI_sub, Int.ofNat_lt, Int.ofNat_le, Nat.reduceAdd, Nat.reduceMul, g0, g3, g5, hlt, hget, enc_TMove, hpo, ep_spec_l06Forest_under, sn1, sn2, hu, fT]
        have f' : FT (List.set h T (Slot.cells [V.hsl A N 0 1 false N, V.hsl B N 0 1 false N, V.hsl (List.length h + 2) 2 0 2 true 1]) ++ [Slot.cells (cellsV o), Slot.cells (cellsV o.id), Slot.cells (cellsV o.id)]) A B T N ps ns (V.hsl (List.length h + 2) 2 0 2 true 1) ([] ++ [o.id]) := by
          refine f.setS (fun x hx => at_setT lT hx) (gc_setT lT rfl) (.inr ⟨h.length + 2, by omega, rfl, ?_⟩)
          rw [gc_ge (by rw [List.length_set]; omega), List.length_set, Nat.add_sub_cancel_left, List.nil_append, rows_one]
          rfl
        exact hn _ _ _ (by omega) ⟨i + 1, _, ps, ns, [] ++ [o.id], rfl, by omega, by simp, g0, g3, rfl, f', hp⟩
      · have rB : ∀ l2, getCells (h ++ l2) B2 (sk.length * 2) = some (rows sk) := fun l2 => gc_app hB2
        have lB := gc_lt hB2
        have rT2 : ∀ s l2, getCells (h.set B2 s ++ l2) T 3 = some [.hsl A N 0 1 false N, .hsl B N 0 1 false N, .hsl B2 (sk.length * 2) 0 2 true sk.length] := fun s l2 => gc_app (by rw [gc_set (by omega)]; exact f.t)
        simp (maxSteps := 2000000) (disch := omega) only [gm, S_dynV, w64_nat, w64_id, nI_add, nI_one, nI_two, nI_sub1, nI_sub, Int.ofNat_lt, Int.ofNat_le, Nat.reduceAdd, Nat.reduceMul, g0, g3, g5, hlt, hget, enc_TMove, hpo, ep_spec_l06Forest_under, sn1, sn2, hu, fT, rB, rT2]
        have f' : FT ((List.set h B2 (Slot.cells (rows sk ++ cellsV o.id)) ++ [Slot.cells (cellsV o), Slot.cells (cellsV o.id)]).set T (Slot.cells [V.hsl A N 0 1 false N, V.hsl B N 0 1 false N, V.hsl B2 (sk.length * 2 + 2) 0 2 true (sk.length + 1)])) A B T N ps ns (V.hsl B2 (sk.length * 2 + 2) 0 2 true (sk.length + 1)) (sk ++ [o.id]) := by
          refine f.setS (fun x hx => ?_) (set_cells (rT2 _ _) rfl) (.inr ⟨B2, hTB2, ?_, ?_⟩)
          · rw [List.getElem?_set_ne (by omega), List.getElem?_append_left (by rw [List.length_set]; omega), List.getElem?_set_ne (by omega)]
          · rw [List.length_append, List.length_cons, List.length_nil, Nat.add_mul]
          · rw [gc_set (by omega), gc_left (by rw [List.length_set]; omega), gc_set_eq lB, rows_append, rows_one, if_pos (by rw [List.length_append, rows_len, cellsV_len, z_TStamp, List.length_append, Nat.add_mul]; rfl)]
        exact hn _ _ _ (by omega) ⟨i + 1, _, ps, ns, sk ++ [o.id], rfl, by omega, by simp; omega, g0, g3, rfl, f', hp⟩
    | false =>
      rw [if_neg Bool.false_ne_true] at hp
      split at hp
      case isFalse => cases hp
      rename_i hnd
      obtain ⟨n0, n1, n2⟩ := hnd
      replace n1 : o.node < (ps.length : Int) := n1
      replace n2 : o.node < (ns.length : Int) := n2
      have hA := f.la
      have hB := f.lb
      have x1 : ∀ l2, stepIdxS 1 (h ++ l2) o.node (.hsl A N 0 1 false N) = _ := fun l2 => idx1 (f.app l2).a n0 (by omega)
      have s1 : ∀ l2, stepStore 1 (h ++ l2) (.i (iN o.parent)) (.ptr A N o.node.toNat) = some ((h ++ l2).set A (.cells (rows (ps.set o.node.toNat o.parent)))) := fun l2 => st1 (x := o.parent) (y := .i (iN o.parent)) rfl rfl rfl (f.app l2).a hA (i := o.node.toNat) (by omega)
      have fT2 : ∀ l2, getCells (h.set A (.cells (rows (ps.set o.node.toNat o.parent))) ++ l2) T 3 = some [.hsl A N 0 1 false N, .hsl B N 0 1 false N, v] := fun l2 => ((f.setA _ _).app l2).t
      have x2 : ∀ l2, stepIdxS 1 (h.set A (.cells (rows (ps.set o.node.toNat o.parent))) ++ l2) o.node (.hsl B N 0 1 false N) = _ := fun l2 => idx1 ((f.setA _ _).app l2).b n0 (by omega)
      have s2 : ∀ l2, stepStore 1 (h.set A (.cells (rows (ps.set o.node.toNat o.parent))) ++ l2) (.i (iS o.name)) (.ptr B N o.node.toNat) = some ((h.set A (.cells (rows (ps.set o.node.toNat o.parent))) ++ l2).set B (.cells (rows (ns.set o.node.toNat o.name)))) := fun l2 => st1 (x := o.name) (y := .i (iS o.name)) rfl rfl rfl ((f.setA _ _).app l2).b hB (i := o.node.toNat) (by omega)
      have lA := gc_lt f.a
      have c6 : getCells (h.set A (.cells (rows (ps.set o.node.toNat o.parent))) ++ [Slot.cells [.i (iN o.id.time), .i (iN o.id.actor), .i (iN o.node), .i (iN o.parent), .i (iS o.name)]]) h.length 5 = some [.i (iN o.id.time), .i (iN o.id.actor), .i (iN o.node), .i (iN o.parent), .i (iS o.name)] := by
        rw [gc_ge (by rw [List.length_set]; exact Nat.le_refl _), List.length_set, Nat.sub_self]
        rfl
      have ff := ((f.setA o.node.toNat o.parent).app [Slot.cells (cellsV o)]).setB o.node.toNat o.name
      by_cases hpo : 0 < o.parent
      · rw [if_pos hpo] at hu
        simp (maxSteps := 2000000) (disch := omega) only [gm, S_dynV, w64_nat, w64_id, nI_add, nI_one, nI_two, nI_sub1, nI_sub, Int.ofNat_lt, Int.ofNat_le, Nat.reduceAdd, Nat.reduceMul, g0, g3, g5, hlt, hget, enc_TMove, hpo, ep_spec_l06Forest_under, sn1, sn2, hu, fT, x1, s1, fT2, x2, s2, c6]
        exact hn _ _ _ (by omega) ⟨i + 1, v, _, _, sk, rfl, by omega, by omega, g0, g3, rfl, ff, hp⟩
      · simp (maxSteps := 2000000) (disch := omega) only [gm, S_dynV, w64_nat, w64_id, nI_add, nI_one, nI_two, nI_sub1, nI_sub, Int.ofNat_lt, Int.ofNat_le, Nat.reduceAdd, Nat.reduceMul, g0, g3, g5, hlt, hget, enc_TMove, hpo, fT, x1, s1, fT2, x2, s2, c6]
        exact hn _ _ _ (by omega) ⟨i + 1, v, _, _, sk, rfl, by omega, by omega, g0, g3, rfl, ff, hp⟩
  · simp (maxSteps := 2000000) (disch := omega) only [gm, S_dynV, w64_nat, w64_id, nI_add, nI_one, nI_two, nI_sub1, nI_sub, Int.ofNat_lt, Int.ofNat_le, Nat.reduceAdd, Nat.reduceMul, g0, g3, g5, hlt]
    rw [List.drop_of_length_le (by omega)] at hp
    cases hp
    exact hx _ _ _ (by simp) (hQ _ _ v g3 f)

theorem d_spec_l06Grow {P : Program} {env : Env} {f_spec_l06Forest_under : Nat} (ep_spec_l06Forest_under : env (2 * f_spec_l06Forest_under) = pureFn true (FA fun a : TForest × Int × Int => p_spec_l06Forest_under a.1 a.2.1 a.2.2)) (x0 : List TMove) {b : TForest} (hp : p_spec_l06Grow x0 = some b) : R P env (c_spec_l06Grow f_spec_l06Forest_under) ((encA (x0)).map ofI) [] (Tells true b) := by
  refine R_of (by simp [c_spec_l06Grow, encA]) ?_
  unfold c_spec_l06Grow
  generalize hN : (1001 : Int) = N
  have p1 : (0 : Int) ≤ N := by omega
  have p2 : N * 8 ≤ 281474976710656 := by omega
  have p3 : N * 16 ≤ 281474976710656 := by omega
  have p4 : N ≤ 9223372036854775807 := by omega
  simp (maxSteps := 2000000) (disch := omega) only [gm, S_dynV, w64_nat, w64_id, nI_add, nI_one, nI_two, nI_sub1, nI_sub, Int.ofNat_lt, Int.ofNat_le, Nat.reduceAdd, Nat.reduceMul, p1, p2, p3, p4, Int.le_refl]
  generalize hM : N.toNat = M
  have hM2 : M = 1001 := by omega
  unfold p_spec_l06Grow at hp
  split at hp
  case isFalse => cases hp
  rename_i hl
  have f0 : FT [Slot.cells (List.replicate M [V.i (I.s (Value.int IntKind.i64 0))]).flatten, Slot.cells (List.replicate M [V.i (I.s (Value.string { data := #[] }))]).flatten, Slot.cells [V.hsl 0 M 0 1 false M, V.hsl 1 M 0 1 false M, V.i (I.s (Value.slice none 0 0))]] 0 1 2 M (List.replicate M 0) (List.replicate M ⟨#[]⟩) (V.i (I.s (Value.slice none 0 0))) [] := by
    rw [rep_rows (x := (0 : Int)) (c := [.i (.s (.int .i64 0))]) rfl, rep_rows (x := (⟨#[]⟩ : ByteArray)) (c := [.i (.s (.string ⟨#[]⟩))]) rfl]
    refine ⟨?_, ?_, rfl, .inl ⟨rfl, rfl⟩, by simp, by simp, by omega, by omega, by omega⟩
    · rw [gc_zero, if_pos (by rw [rows_len, List.length_replicate]; exact Nat.mul_one M)]
    · rw [gc_succ, gc_zero, if_pos (by rw [rows_len, List.length_replicate]; exact Nat.mul_one M)]
  refine fill_loop (t0 := .i (.sl 5 (x0.map enc))) hM2 f0 rfl rfl rfl ?_
  clear f0
  intro t h g0 g3 f
  rw [← hM2] at hp
  simp (maxSteps := 2000000) (disch := omega) only [gm, S_dynV, w64_nat, w64_id, nI_add, nI_one, nI_two, nI_sub1, nI_sub, Int.ofNat_lt, Int.ofNat_le, Nat.reduceAdd, Nat.reduceMul, g0, g3]
  refine sgrow_loop ep_spec_l06Forest_under (f0 := ⟨List.replicate M (-2), List.replicate M ⟨#[]⟩, []⟩) hl f rfl hp g0 g3 rfl ?_
  clear f g0 g3
  clear t h
  intro t h v g3 f
  obtain ⟨pic, sn1, sn2⟩ := f.snap 5 true
  simp (maxSteps := 2000000) (disch := omega) only [gm, S_dynV, w64_nat, w64_id, nI_add, nI_one, nI_two, nI_sub1, nI_sub, Int.ofNat_lt, Int.ofNat_le, Nat.reduceAdd, Nat.reduceMul, g3, sn1, sn2]
end Go.AM
