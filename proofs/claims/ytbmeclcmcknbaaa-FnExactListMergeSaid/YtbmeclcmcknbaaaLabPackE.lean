/- Several texts of the abstract machine in one. No condition. -/
import Derived.Test.YtbmeclcmcknbaaaLabPackD
import Derived.Sort.Walk13a
import Derived.Shelf.GgSortFunc.RowK
import Derived.Sort.OwnSorted
import Derived.Lib.ReflectliteSwap
import Derived.Shelf.GgSortFunc.Slice
import Derived.Shelf.GgSortFunc.Tiny
import Derived.Shelf.GgSortFunc.Small
set_option linter.unusedVariables false
set_option linter.unusedSimpArgs false
set_option maxRecDepth 20000
namespace Go.AM
open Go.Sort
variable {P : Program} {env : Env} {α : Type} [Inhabited α]

def c_sort_pdqsort_func (f_sort_insertionSort_func : Nat) (f_sort_heapSort_func : Nat) (f_sort_breakPatterns_func : Nat) (f_sort_choosePivot_func : Nat) (f_sort_reverseRange_func : Nat) (f_sort_partialInsertionSort_func : Nat) (f_sort_partitionEqual_func : Nat) (f_sort_partition_func : Nat) (f_sort_pdqsort_func : Nat) : AFn := ⟨130, (.seq (.ops [(qS 4 (.box (.tmp 0)))]) (.seq (.ops [(qS 8 (.mv (.const (.bool true))))]) (.seq (.ops [(qS 9 (.mv (.const (.bool true))))]) (.block 0 (.loop (.block 1 (.seq (.ops [(qS 19 (.mv (.tmp 2))), (qS 20 (.mv (.tmp 1))), (qS 21 (.pu (.n (.ar .sub)) [(.tmp 19), (.tmp 20)])), (qS 10 (.mv (.tmp 21)))]) (.seq (.seq (.ops [(qS 22 (.mv (.tmp 10))), (qS 23 (.pu (.n (.ar .leq)) [(.tmp 22), (ic 12)]))]) (.cond (.tmp 23) (.seq (.ops [(qS 24 (.load 2 true (.tmp 4))), (qS 25 (.mv (.tmp 1))), (qS 26 (.mv (.tmp 2))), (qS 27 (.call (2 * f_sort_insertionSort_func + 1) [(.tmp 24), (.tmp 25), (.tmp 26)]))]) .ret) .skip)) (.seq (.seq (.ops [(qS 28 (.mv (.tmp 3))), (qS 29 (.pu (.n (.ar .eql)) [(.tmp 28), (ic 0)]))]) (.cond (.tmp 29) (.seq (.ops [(qS 30 (.load 2 true (.tmp 4))), (qS 31 (.mv (.tmp 1))), (qS 32 (.mv (.tmp 2))), (qS 33 (.call (2 * f_sort_heapSort_func + 1) [(.tmp 30), (.tmp 31), (.tmp 32)]))]) .ret) .skip)) (.seq (.seq (.ops [(qS 34 (.mv (.tmp 8))), (qS 35 (.pu (.n (.un .not)) [(.tmp 34)]))]) (.cond (.tmp 35) (.seq (.ops [(qS 36 (.load 2 true (.tmp 4))), (qS 37 (.mv (.tmp 1))), (qS 38 (.mv (.tmp 2))), (qS 39 (.call (2 * f_sort_breakPatterns_func + 1) [(.tmp 36), (.tmp 37), (.tmp 38)]))]) (.ops [(qS 40 (.mv (.tmp 3))), (qS 41 (.pu (.n (.ar .sub)) [(.tmp 40), (ic 1)])), (qS 3 (.mv (.tmp 41)))])) .skip)) (.seq (.ops [(qS 43 (.load 2 true (.tmp 4))), (qS 44 (.mv (.tmp 1))), (qS 45 (.mv (.tmp 2))), (qS 46 (.call (2 * f_sort_choosePivot_func + 1) [(.tmp 43), (.tmp 44), (.tmp 45)])), (qS 42 (.mv (.tmp 46))), (qS 47 (.extract 0 (.tmp 42))), (qS 48 (.extract 1 (.tmp 42))), (qS 11 (.mv (.tmp 47))), (qS 12 (.mv (.tmp 48)))]) (.seq (.seq (.ops [(qS 49 (.mv (.tmp 12))), (qS 50 (.pu (.n (.ar .eql)) [(.tmp 49), (ic 2)]))]) (.cond (.tmp 50) (.seq (.ops [(qS 51 (.load 2 true (.tmp 4))), (qS 52 (.mv (.tmp 1))), (qS 53 (.mv (.tmp 2))), (qS 54 (.call (2 * f_sort_reverseRange_func + 1) [(.tmp 51), (.tmp 52), (.tmp 53)]))]) (.seq (.ops [(qS 55 (.mv (.tmp 2))), (qS 56 (.pu (.n (.ar .sub)) [(.tmp 55), (ic 1)])), (qS 57 (.mv (.tmp 11))), (qS 58 (.mv (.tmp 1))), (qS 59 (.pu (.n (.ar .sub)) [(.tmp 57), (.tmp 58)])), (qS 60 (.pu (.n (.ar .sub)) [(.tmp 56), (.tmp 59)])), (qS 11 (.mv (.tmp 60)))]) (.ops [(qS 12 (.mv (ic 1)))]))) .skip)) (.seq (.seq (.ops [(qS 61 (.mv (.tmp 8))), (qS 62 (.mv (.tmp 61))), ⟨(.some 63), (.mv (.tmp 9)), (.some (62, true)), [], .none⟩, (qS 64 (.pick (.tmp 62) (.tmp 63) (.const (.bool false)))), (qS 65 (.mv (.tmp 64))), ⟨(.some 66), (.mv (.tmp 12)), (.some (65, true)), [], .none⟩, ⟨(.some 67), (.pu (.n (.ar .eql)) [(.tmp 66), (ic 1)]), (.some (65, true)), [], .none⟩, (qS 68 (.pick (.tmp 65) (.tmp 67) (.const (.bool false))))]) (.cond (.tmp 68) (.seq (.ops [(qS 69 (.load 2 true (.tmp 4))), (qS 70 (.mv (.tmp 1))), (qS 71 (.mv (.tmp 2))), (qS 72 (.call (2 * f_sort_partialInsertionSort_func + 1) [(.tmp 69), (.tmp 70), (.tmp 71)]))]) (.cond (.tmp 72) .ret .skip)) .skip)) (.seq (.seq (.ops [(qS 73 (.mv (.tmp 1))), (qS 74 (.pu (.n (.ar .gtr)) [(.tmp 73), (ic 0)])), (qS 75 (.mv (.tmp 74))), ⟨(.some 76), (.fieldA 0 (.tmp 4)), (.some (75, true)), [], .none⟩, ⟨(.some 77), (.load 1 false (.tmp 76)), (.some (75, true)), [], .none⟩, ⟨(.some 78), (.mv (.tmp 1)), (.some (75, true)), [], .none⟩, ⟨(.some 79), (.pu (.n (.ar .sub)) [(.tmp 78), (ic 1)]), (.some (75, true)), [], .none⟩, ⟨(.some 80), (.mv (.tmp 11)), (.some (75, true)), [], .none⟩, ⟨(.some 81), (.dyn (.tmp 77) [(.tmp 79), (.tmp 80)]), (.some (75, true)), [], .none⟩, ⟨(.some 82), (.pu (.n (.un .not)) [(.tmp 81)]), (.some (75, true)), [], .none⟩, (qS 83 (.pick (.tmp 75) (.tmp 82) (.const (.bool false))))]) (.cond (.tmp 83) (.seq (.ops [(qS 84 (.load 2 true (.tmp 4))), (qS 85 (.mv (.tmp 1))), (qS 86 (.mv (.tmp 2))), (qS 87 (.mv (.tmp 11))), (qS 88 (.call (2 * f_sort_partitionEqual_func + 1) [(.tmp 84), (.tmp 85), (.tmp 86), (.tmp 87)])), (qS 13 (.mv (.tmp 88)))]) (.seq (.ops [(qS 89 (.mv (.tmp 13))), (qS 1 (.mv (.tmp 89)))]) (.exit 1))) .skip)) (.seq (.ops [(qS 91 (.load 2 true (.tmp 4))), (qS 92 (.mv (.tmp 1))), (qS 93 (.mv (.tmp 2))), (qS 94 (.mv (.tmp 11))), (qS 95 (.call (2 * f_sort_partition_func + 1) [(.tmp 91), (.tmp 92), (.tmp 93), (.tmp 94)])), (qS 90 (.mv (.tmp 95))), (qS 96 (.extract 0 (.tmp 90))), (qS 97 (.extract 1 (.tmp 90))), (qS 14 (.mv (.tmp 96))), (qS 15 (.mv (.tmp 97)))]) (.seq (.ops [(qS 98 (.mv (.tmp 15))), (qS 9 (.mv (.tmp 98)))]) (.seq (.ops [(qS 99 (.mv (.tmp 14))), (qS 100 (.mv (.tmp 1))), (qS 101 (.pu (.n (.ar .sub)) [(.tmp 99), (.tmp 100)])), (qS 102 (.mv (.tmp 2))), (qS 103 (.mv (.tmp 14))), (qS 104 (.pu (.n (.ar .sub)) [(.tmp 102), (.tmp 103)])), (qS 16 (.mv (.tmp 101))), (qS 17 (.mv (.tmp 104)))]) (.seq (.ops [(qS 105 (.mv (.tmp 10))), (qS 106 (.pu (.n (.ar .quo)) [(.tmp 105), (ic 8)])), (qS 18 (.mv (.tmp 106)))]) (.seq (.ops [(qS 107 (.mv (.tmp 16))), (qS 108 (.mv (.tmp 17))), (qS 109 (.pu (.n (.ar .lss)) [(.tmp 107), (.tmp 108)]))]) (.cond (.tmp 109) (.seq (.ops [(qS 110 (.mv (.tmp 16))), (qS 111 (.mv (.tmp 18))), (qS 112 (.pu (.n (.ar .geq)) [(.tmp 110), (.tmp 111)])), (qS 8 (.mv (.tmp 112)))]) (.seq (.ops [(qS 113 (.load 2 true (.tmp 4))), (qS 114 (.mv (.tmp 1))), (qS 115 (.mv (.tmp 14))), (qS 116 (.mv (.tmp 3))), (qS 117 (.call (2 * f_sort_pdqsort_func + 1) [(.tmp 113), (.tmp 114), (.tmp 115), (.tmp 116)]))]) (.ops [(qS 118 (.mv (.tmp 14))), (qS 119 (.pu (.n (.ar .add)) [(.tmp 118), (ic 1)])), (qS 1 (.mv (.tmp 119)))]))) (.seq (.ops [(qS 120 (.mv (.tmp 17))), (qS 121 (.mv (.tmp 18))), (qS 122 (.pu (.n (.ar .geq)) [(.tmp 120), (.tmp 121)])), (qS 8 (.mv (.tmp 122)))]) (.seq (.ops [(qS 123 (.load 2 true (.tmp 4))), (qS 124 (.mv (.tmp 14))), (qS 125 (.pu (.n (.ar .add)) [(.tmp 124), (ic 1)])), (qS 126 (.mv (.tmp 2))), (qS 127 (.mv (.tmp 3))), (qS 128 (.call (2 * f_sort_pdqsort_func + 1) [(.tmp 123), (.tmp 125), (.tmp 126), (.tmp 127)]))]) (.ops [(qS 129 (.mv (.tmp 14))), (qS 2 (.mv (.tmp 129)))]))))))))))))))))))))))), []⟩

def k_pdq4 (fI fH fB fC fR fP fE fT fS : Nat) : ACode := (.seq (.seq (.ops [(qS 73 (.mv (.tmp 1))), (qS 74 (.pu (.n (.ar .gtr)) [(.tmp 73), (ic 0)])), (qS 75 (.mv (.tmp 74))), ⟨(.some 76), (.fieldA 0 (.tmp 4)), (.some (75, true)), [], .none⟩, ⟨(.some 77), (.load 1 false (.tmp 76)), (.some (75, true)), [], .none⟩, ⟨(.some 78), (.mv (.tmp 1)), (.some (75, true)), [], .none⟩, ⟨(.some 79), (.pu (.n (.ar .sub)) [(.tmp 78), (ic 1)]), (.some (75, true)), [], .none⟩, ⟨(.some 80), (.mv (.tmp 11)), (.some (75, true)), [], .none⟩, ⟨(.some 81), (.dyn (.tmp 77) [(.tmp 79), (.tmp 80)]), (.some (75, true)), [], .none⟩, ⟨(.some 82), (.pu (.n (.un .not)) [(.tmp 81)]), (.some (75, true)), [], .none⟩, (qS 83 (.pick (.tmp 75) (.tmp 82) (.const (.bool false))))]) (.cond (.tmp 83) (.seq (.ops [(qS 84 (.load 2 true (.tmp 4))), (qS 85 (.mv (.tmp 1))), (qS 86 (.mv (.tmp 2))), (qS 87 (.mv (.tmp 11))), (qS 88 (.call (2 * fE + 1) [(.tmp 84), (.tmp 85), (.tmp 86), (.tmp 87)])), (qS 13 (.mv (.tmp 88)))]) (.seq (.ops [(qS 89 (.mv (.tmp 13))), (qS 1 (.mv (.tmp 89)))]) (.exit 1))) .skip)) (.seq (.ops [(qS 91 (.load 2 true (.tmp 4))), (qS 92 (.mv (.tmp 1))), (qS 93 (.mv (.tmp 2))), (qS 94 (.mv (.tmp 11))), (qS 95 (.call (2 * fT + 1) [(.tmp 91), (.tmp 92), (.tmp 93), (.tmp 94)])), (qS 90 (.mv (.tmp 95))), (qS 96 (.extract 0 (.tmp 90))), (qS 97 (.extract 1 (.tmp 90))), (qS 14 (.mv (.tmp 96))), (qS 15 (.mv (.tmp 97)))]) (.seq (.ops [(qS 98 (.mv (.tmp 15))), (qS 9 (.mv (.tmp 98)))]) (.seq (.ops [(qS 99 (.mv (.tmp 14))), (qS 100 (.mv (.tmp 1))), (qS 101 (.pu (.n (.ar .sub)) [(.tmp 99), (.tmp 100)])), (qS 102 (.mv (.tmp 2))), (qS 103 (.mv (.tmp 14))), (qS 104 (.pu (.n (.ar .sub)) [(.tmp 102), (.tmp 103)])), (qS 16 (.mv (.tmp 101))), (qS 17 (.mv (.tmp 104)))]) (.seq (.ops [(qS 105 (.mv (.tmp 10))), (qS 106 (.pu (.n (.ar .quo)) [(.tmp 105), (ic 8)])), (qS 18 (.mv (.tmp 106)))]) (.seq (.ops [(qS 107 (.mv (.tmp 16))), (qS 108 (.mv (.tmp 17))), (qS 109 (.pu (.n (.ar .lss)) [(.tmp 107), (.tmp 108)]))]) (.cond (.tmp 109) (.seq (.ops [(qS 110 (.mv (.tmp 16))), (qS 111 (.mv (.tmp 18))), (qS 112 (.pu (.n (.ar .geq)) [(.tmp 110), (.tmp 111)])), (qS 8 (.mv (.tmp 112)))]) (.seq (.ops [(qS 113 (.load 2 true (.tmp 4))), (qS 114 (.mv (.tmp 1))), (qS 115 (.mv (.tmp 14))), (qS 116 (.mv (.tmp 3))), (qS 117 (.call (2 * fS + 1) [(.tmp 113), (.tmp 114), (.tmp 115), (.tmp 116)]))]) (.ops [(qS 118 (.mv (.tmp 14))), (qS 119 (.pu (.n (.ar .add)) [(.tmp 118), (ic 1)])), (qS 1 (.mv (.tmp 119)))]))) (.seq (.ops [(qS 120 (.mv (.tmp 17))), (qS 121 (.mv (.tmp 18))), (qS 122 (.pu (.n (.ar .geq)) [(.tmp 120), (.tmp 121)])), (qS 8 (.mv (.tmp 122)))]) (.seq (.ops [(qS 123 (.load 2 true (.tmp 4))), (qS 124 (.mv (.tmp 14))), (qS 125 (.pu (.n (.ar .add)) [(.tmp 124), (ic 1)])), (qS 126 (.mv (.tmp 2))), (qS 127 (.mv (.tmp 3))), (qS 128 (.call (2 * fS + 1) [(.tmp 123), (.tmp 125), (.tmp 126), (.tmp 127)]))]) (.ops [(qS 129 (.mv (.tmp 14))), (qS 2 (.mv (.tmp 129)))]))))))))))
def k_pdq3 (fI fH fB fC fR fP fE fT fS : Nat) : ACode := (.seq (.seq (.ops [(qS 61 (.mv (.tmp 8))), (qS 62 (.mv (.tmp 61))), ⟨(.some 63), (.mv (.tmp 9)), (.some (62, true)), [], .none⟩, (qS 64 (.pick (.tmp 62) (.tmp 63) (.const (.bool false)))), (qS 65 (.mv (.tmp 64))), ⟨(.some 66), (.mv (.tmp 12)), (.some (65, true)), [], .none⟩, ⟨(.some 67), (.pu (.n (.ar .eql)) [(.tmp 66), (ic 1)]), (.some (65, true)), [], .none⟩, (qS 68 (.pick (.tmp 65) (.tmp 67) (.const (.bool false))))]) (.cond (.tmp 68) (.seq (.ops [(qS 69 (.load 2 true (.tmp 4))), (qS 70 (.mv (.tmp 1))), (qS 71 (.mv (.tmp 2))), (qS 72 (.call (2 * fP + 1) [(.tmp 69), (.tmp 70), (.tmp 71)]))]) (.cond (.tmp 72) .ret .skip)) .skip)) (k_pdq4 fI fH fB fC fR fP fE fT fS))
def k_pdq2 (fI fH fB fC fR fP fE fT fS : Nat) : ACode := (.seq (.ops [(qS 43 (.load 2 true (.tmp 4))), (qS 44 (.mv (.tmp 1))), (qS 45 (.mv (.tmp 2))), (qS 46 (.call (2 * fC + 1) [(.tmp 43), (.tmp 44), (.tmp 45)])), (qS 42 (.mv (.tmp 46))), (qS 47 (.extract 0 (.tmp 42))), (qS 48 (.extract 1 (.tmp 42))), (qS 11 (.mv (.tmp 47))), (qS 12 (.mv (.tmp 48)))]) (.seq (.seq (.ops [(qS 49 (.mv (.tmp 12))), (qS 50 (.pu (.n (.ar .eql)) [(.tmp 49), (ic 2)]))]) (.cond (.tmp 50) (.seq (.ops [(qS 51 (.load 2 true (.tmp 4))), (qS 52 (.mv (.tmp 1))), (qS 53 (.mv (.tmp 2))), (qS 54 (.call (2 * fR + 1) [(.tmp 51), (.tmp 52), (.tmp 53)]))]) (.seq (.ops [(qS 55 (.mv (.tmp 2))), (qS 56 (.pu (.n (.ar .sub)) [(.tmp 55), (ic 1)])), (qS 57 (.mv (.tmp 11))), (qS 58 (.mv (.tmp 1))), (qS 59 (.pu (.n (.ar .sub)) [(.tmp 57), (.tmp 58)])), (qS 60 (.pu (.n (.ar .sub)) [(.tmp 56), (.tmp 59)])), (qS 11 (.mv (.tmp 60)))]) (.ops [(qS 12 (.mv (ic 1)))]))) .skip)) (k_pdq3 fI fH fB fC fR fP fE fT fS)))
def k_pdq1 (fI fH fB fC fR fP fE fT fS : Nat) : ACode := (.seq (.seq (.ops [(qS 34 (.mv (.tmp 8))), (qS 35 (.pu (.n (.un .not)) [(.tmp 34)]))]) (.cond (.tmp 35) (.seq (.ops [(qS 36 (.load 2 true (.tmp 4))), (qS 37 (.mv (.tmp 1))), (qS 38 (.mv (.tmp 2))), (qS 39 (.call (2 * fB + 1) [(.tmp 36), (.tmp 37), (.tmp 38)]))]) (.ops [(qS 40 (.mv (.tmp 3))), (qS 41 (.pu (.n (.ar .sub)) [(.tmp 40), (ic 1)])), (qS 3 (.mv (.tmp 41)))])) .skip)) (k_pdq2 fI fH fB fC fR fP fE fT fS))
theorem c_pdq (fI fH fB fC fR fP fE fT fS : Nat) : c_sort_pdqsort_func fI fH fB fC fR fP fE fT fS = ⟨130, (.seq (.ops [(qS 4 (.box (.tmp 0)))]) (.seq (.ops [(qS 8 (.mv (.const (.bool true))))]) (.seq (.ops [(qS 9 (.mv (.const (.bool true))))]) (.block 0 (.loop (.block 1 (.seq (.ops [(qS 19 (.mv (.tmp 2))), (qS 20 (.mv (.tmp 1))), (qS 21 (.pu (.n (.ar .sub)) [(.tmp 19), (.tmp 20)])), (qS 10 (.mv (.tmp 21)))]) (.seq (.seq (.ops [(qS 22 (.mv (.tmp 10))), (qS 23 (.pu (.n (.ar .leq)) [(.tmp 22), (ic 12)]))]) (.cond (.tmp 23) (.seq (.ops [(qS 24 (.load 2 true (.tmp 4))), (qS 25 (.mv (.tmp 1))), (qS 26 (.mv (.tmp 2))), (qS 27 (.call (2 * fI + 1) [(.tmp 24), (.tmp 25), (.tmp 26)]))]) .ret) .skip)) (.seq (.seq (.ops [(qS 28 (.mv (.tmp 3))), (qS 29 (.pu (.n (.ar .eql)) [(.tmp 28), (ic 0)]))]) (.cond (.tmp 29) (.seq (.ops [(qS 30 (.load 2 true (.tmp 4))), (qS 31 (.mv (.tmp 1))), (qS 32 (.mv (.tmp 2))), (qS 33 (.call (2 * fH + 1) [(.tmp 30), (.tmp 31), (.tmp 32)]))]) .ret) .skip)) (k_pdq1 fI fH fB fC fR fP fE fT fS)))))))))), []⟩ := rfl

/-! ### The round, in stages -/
section
variable (lt : α → α → Bool)
def pdqR4 (A : Array α) (a b lim p : Nat) (wb wp : Bool) : Array α :=
  if (decide (a > 0) && !lt A[a - 1]! A[p]!) = true then
    (if a < (partitionEqual lt A a b p).1 ∧ (partitionEqual lt A a b p).1 ≤ b then pdq lt (partitionEqual lt A a b p).2 (partitionEqual lt A a b p).1 b lim wb wp else (partitionEqual lt A a b p).2)
  else
    (if a ≤ (partition lt A a b p).1 ∧ (partition lt A a b p).1 < b then
      (if (partition lt A a b p).1 - a < b - (partition lt A a b p).1 then
        pdq lt (pdq lt (partition lt A a b p).2.2 a (partition lt A a b p).1 lim true true) ((partition lt A a b p).1 + 1) b lim (decide ((partition lt A a b p).1 - a ≥ (b - a) / 8)) (partition lt A a b p).2.1
      else
        pdq lt (pdq lt (partition lt A a b p).2.2 ((partition lt A a b p).1 + 1) b lim true true) a (partition lt A a b p).1 lim (decide (b - (partition lt A a b p).1 ≥ (b - a) / 8)) (partition lt A a b p).2.1)
    else (partition lt A a b p).2.2)
def pdqR3' (pi : Array α × Bool) (a b lim p : Nat) (wb wp : Bool) : Array α := if pi.2 = true then pi.1 else pdqR4 lt pi.1 a b lim p wb wp
def pdqR3 (A : Array α) (a b lim p : Nat) (hint : Hint) (wb wp : Bool) : Array α :=
  pdqR3' lt (if (wb && wp && decide (hint = .increasing)) = true then partialInsertionSort lt A a b else (A, false)) a b lim p wb wp
def pdqR2' (c : Nat × Hint) (A : Array α) (a b lim : Nat) (wb wp : Bool) : Array α :=
  pdqR3 lt (if c.2 = .decreasing then reverseRange A a b else A) a b lim (if c.2 = .decreasing then (b - 1) - (c.1 - a) else c.1) (if c.2 = .decreasing then .increasing else c.2) wb wp
def pdqR2 (A : Array α) (a b lim : Nat) (wb wp : Bool) : Array α := pdqR2' lt (choosePivot lt A a b) A a b lim wb wp
def pdqR1 (A : Array α) (a b lim : Nat) (wb wp : Bool) : Array α := pdqR2 lt (if (!wb) = true then breakPatterns A a b else A) a b (if (!wb) = true then lim - 1 else lim) wb wp
theorem pdq_R {d : Array α} {a b limit : Nat} {wb wp : Bool} : pdq lt d a b limit wb wp = if b - a ≤ 12 then insertionSort lt d a b else if limit = 0 then heapSort lt d a b else pdqR1 lt d a b limit wb wp := by
  rw [pdq]
  rfl
end

/-- What the functions that it calls do. -/
structure PdqK (L : LS env α) (fI fH fB fC fR fP fE fT fS N : Nat) : Prop where
  ki : ∀ {H : Heap} {A : Array α}, L.Lh H A → ∀ a b : Nat, a ≤ L.sz → b ≤ L.sz → CS L (2 * fI + 1) [.agg [L.less, L.swap], nV a, nV b] H (insertionSort L.lt A a b) (.tup [])
  kh : ∀ {H : Heap} {A : Array α}, L.Lh H A → ∀ a b : Nat, a + 2 ≤ b → b ≤ L.sz → CS L (2 * fH + 1) [.agg [L.less, L.swap], nV a, nV b] H (heapSort L.lt A a b) (.tup [])
  kb : ∀ {H : Heap} {A : Array α}, L.Lh H A → ∀ a b : Nat, a ≤ b → b ≤ L.sz → CS L (2 * fB + 1) [.agg [L.less, L.swap], nV a, nV b] H (breakPatterns A a b) (.tup [])
  kc : ∀ {H : Heap} {A : Array α}, L.Lh H A → ∀ a b : Nat, a < b → b ≤ L.sz → CS L (2 * fC + 1) [.agg [L.less, L.swap], nV a, nV b] H A (.tup [nV (choosePivot L.lt A a b).1, nV (hintN (choosePivot L.lt A a b).2)])
  kr : ∀ {H : Heap} {A : Array α}, L.Lh H A → ∀ a b : Nat, a < b → b ≤ L.sz → CS L (2 * fR + 1) [.agg [L.less, L.swap], nV a, nV b] H (reverseRange A a b) (.tup [])
  kp : ∀ {H : Heap} {A : Array α}, L.Lh H A → ∀ a b : Nat, a < b → b ≤ L.sz → CS L (2 * fP + 1) [.agg [L.less, L.swap], nV a, nV b] H (partialInsertionSort L.lt A a b).1 (.i (.s (.bool (partialInsertionSort L.lt A a b).2)))
  ke : ∀ {H : Heap} {A : Array α}, L.Lh H A → ∀ a b p : Nat, a < b → b ≤ L.sz → p < b → CS L (2 * fE + 1) [.agg [L.less, L.swap], nV a, nV b, nV p] H (partitionEqual L.lt A a b p).2 (nV (partitionEqual L.lt A a b p).1)
  kt : ∀ {H : Heap} {A : Array α}, L.Lh H A → ∀ a b p : Nat, a < b → b ≤ L.sz → p < b → CS L (2 * fT + 1) [.agg [L.less, L.swap], nV a, nV b, nV p] H (partition L.lt A a b p).2.2 (.tup [nV (partition L.lt A a b p).1, .i (.s (.bool (partition L.lt A a b p).2.1))])
  ks : ∀ {H : Heap} {A : Array α}, L.Lh H A → ∀ a b lim : Nat, a ≤ b → b ≤ L.sz → b - a < N → lim < 4611686018427387904 → CS L (2 * fS + 1) [.agg [L.less, L.swap], nV a, nV b, nV lim] H (pdq L.lt A a b lim true true) (.tup [])

abbrev bV (b : Bool) : V := .i (.s (.bool b))

theorem partEq_range {lt : α → α → Bool} {A : Array α} {a b p : Nat} (hab : a < b) (hb : b ≤ A.size) : a < (partitionEqual lt A a b p).1 ∧ (partitionEqual lt A a b p).1 ≤ b := by
  unfold partitionEqual
  have := partEqLoop_spec lt a b _ (a + 1) (b - 1) (swp A a p) (Nat.le_refl _) (Nat.lt_succ_self a) (by omega) (by omega) (by rw [size_swp]; exact hb) (fun t h1 h2 => by omega) (fun t h1 h2 => by omega)
  exact ⟨this.1, this.2.1⟩
theorem part_range {lt : α → α → Bool} {A : Array α} {a b p : Nat} (hab : a < b) (hb : b ≤ A.size) : a ≤ (partition lt A a b p).1 ∧ (partition lt A a b p).1 < b := by
  rw [partition_fst]
  have := partLoop_spec lt a b _ (a + 1) (b - 1) (swp A a p) (Nat.le_refl _) (Nat.lt_succ_self a) (by omega) (by omega) (by rw [size_swp]; exact hb) (fun t h1 h2 => by omega) (fun t h1 h2 => by omega)
  exact ⟨this.1, this.2.1⟩

theorem W_pdq4 {L : LS env α} {fI fH fB fC fR fP fE fT fS N : Nat} (k : PdqK L fI fH fB fC fR fP fE fT fS N) {Q : Post} {H h : Heap} {B : Nat} {A S : Array α} {t : Nat → V} (f : Fr L H B h A) {a b lim p : Nat} {wb wp : Bool}
    (g1 : t 1 = nV a) (g2 : t 2 = nV b) (g3 : t 3 = nV lim) (g4 : t 4 = .ptr B 2 0) (g8 : t 8 = bV wb) (g9 : t 9 = bV wp) (g10 : t 10 = nV (b - a)) (g11 : t 11 = nV p)
    (hab : a < b) (hb : b ≤ L.sz) (hp : p < b) (hN : b - a ≤ N) (hlim : lim < 4611686018427387904) (hS : S = pdqR4 L.lt A a b lim p wb wp)
    (hQ : ∀ t h a' b' wb' wp' A', t 1 = nV a' → t 2 = nV b' → t 3 = nV lim → t 4 = .ptr B 2 0 → t 8 = bV wb' → t 9 = bV wp' → a' ≤ b' → b' ≤ L.sz → b' - a' < b - a → Fr L H B h A' → S = pdq L.lt A' a' b' lim wb' wp' → Q .normal t h ∧ Q (.exit 1) t h) :
    @W P env ⟨k_pdq4 fI fH fB fC fR fP fE fT fS⟩ t h ⟨Q⟩ := by
  have big := L.big
  have hsz := L.size f.lh
  unfold k_pdq4
  unfold pdqR4 at hS
  have goE : (decide (a > 0) && !L.lt A[a - 1]! A[p]!) = true → @W P env ⟨k_pdq4 fI fH fB fC fR fP fE fT fS⟩ t h ⟨Q⟩ := by
    intro hc
    rw [if_pos hc, if_pos (partEq_range hab (by omega))] at hS
    simp only [gt_iff_lt, Bool.and_eq_true, decide_eq_true_eq, Bool.not_eq_true'] at hc
    have r := partEq_range (lt := L.lt) (A := A) (p := p) hab (by omega)
    have ha0 : (0 : Int) < (a : Int) := by omega
    have hl := f.lessN (a - 1) p (by omega) (by omega)
    rw [hc.2] at hl
    obtain ⟨h', c1, l1, k1⟩ := k.ke f.lh a b p hab hb hp
    have f1 := f.next l1 k1
    generalize partitionEqual L.lt A a b p = m at *
    unfold k_pdq4
    simp (maxSteps := 2000000) (disch := omega) only [gw, Nat.reduceAdd, Nat.reduceMul, g1, g2, g3, g4, g11, ha0, f.ldL, f.ldB, hl, c1]
    exact And.right (hQ _ _ m.1 b wb wp _ rfl g2 g3 g4 g8 g9 r.2 hb (by omega) f1 hS)
  by_cases hc : (decide (a > 0) && !L.lt A[a - 1]! A[p]!) = true
  · have := goE hc
    unfold k_pdq4 at this
    exact this
  · clear goE
    rw [if_neg hc, if_pos (part_range hab (by omega))] at hS
    have r := part_range (lt := L.lt) (A := A) (p := p) hab (by omega)
    obtain ⟨h', c1, l1, k1⟩ := k.kt f.lh a b p hab hb hp
    have f1 := f.next l1 k1
    obtain ⟨m, hm⟩ : ∃ m, m = partition L.lt A a b p := ⟨_, rfl⟩
    rw [← hm] at hS r c1 f1
    obtain ⟨d, hd⟩ : ∃ d, d = (b - a) / 8 := ⟨_, rfl⟩
    rw [← hd] at hS
    by_cases hlr : m.1 - a < b - m.1
    · rw [if_pos hlr] at hS
      obtain ⟨h2, c2, l2, k2⟩ := k.ks f1.lh a m.1 lim (by omega) (by omega) (by omega) hlim
      have f2 := f1.next l2 k2
      by_cases ha : 0 < a
      · have ha0 : (0 : Int) < (a : Int) := by omega
        have hl := f.lessN (a - 1) p (by omega) (by omega)
        have hc2 : L.lt A[a - 1]! A[p]! = true := by
          cases e : L.lt A[a - 1]! A[p]! with
          | true => rfl
          | false => exact absurd (by simp [ha, e]) hc
        rw [hc2] at hl
        simp (maxSteps := 2000000) (disch := omega) only [gw, Nat.reduceAdd, Nat.reduceMul, g1, g2, g3, g4, g10, g11, ha0, f.ldL, f.ldB, f1.ldB, hl, c1, nI_div8, ← hd, hlr, c2]
        exact And.left (hQ _ _ (m.1 + 1) b _ _ _ rfl g2 g3 g4 rfl rfl (by omega) hb (by omega) f2 hS)
      · have ha0 : ¬ (0 : Int) < (a : Int) := by omega
        simp (maxSteps := 2000000) (disch := omega) only [gw, Nat.reduceAdd, Nat.reduceMul, g1, g2, g3, g4, g10, g11, ha0, f.ldL, f.ldB, f1.ldB, c1, nI_div8, ← hd, hlr, c2]
        exact And.left (hQ _ _ (m.1 + 1) b _ _ _ rfl g2 g3 g4 rfl rfl (by omega) hb (by omega) f2 hS)
    · rw [if_neg hlr] at hS
      obtain ⟨h2, c2, l2, k2⟩ := k.ks f1.lh (m.1 + 1) b lim (by omega) (by omega) (by omega) hlim
      have f2 := f1.next l2 k2
      by_cases ha : 0 < a
      · have ha0 : (0 : Int) < (a : Int) := by omega
        have hl := f.lessN (a - 1) p (by omega) (by omega)
        have hc2 : L.lt A[a - 1]! A[p]! = true := by
          cases e : L.lt A[a - 1]! A[p]! with
          | true => rfl
          | false => exact absurd (by simp [ha, e]) hc
        rw [hc2] at hl
        simp (maxSteps := 2000000) (disch := omega) only [gw, Nat.reduceAdd, Nat.reduceMul, g1, g2, g3, g4, g10, g11, ha0, f.ldL, f.ldB, f1.ldB, hl, c1, nI_div8, ← hd, hlr, c2]
        exact And.left (hQ _ _ a m.1 _ _ _ g1 rfl g3 g4 rfl rfl (by omega) (by omega) (by omega) f2 hS)
      · have ha0 : ¬ (0 : Int) < (a : Int) := by omega
        simp (maxSteps := 2000000) (disch := omega) only [gw, Nat.reduceAdd, Nat.reduceMul, g1, g2, g3, g4, g10, g11, ha0, f.ldL, f.ldB, f1.ldB, c1, nI_div8, ← hd, hlr, c2]
        exact And.left (hQ _ _ a m.1 _ _ _ g1 rfl g3 g4 rfl rfl (by omega) (by omega) (by omega) f2 hS)

theorem W_pdq3 {L : LS env α} {fI fH fB fC fR fP fE fT fS N : Nat} (k : PdqK L fI fH fB fC fR fP fE fT fS N) {Q : Post} {H h : Heap} {B : Nat} {A S : Array α} {t : Nat → V} (f : Fr L H B h A) {a b lim p : Nat} {hint : Hint} {wb wp : Bool}
    (g1 : t 1 = nV a) (g2 : t 2 = nV b) (g3 : t 3 = nV lim) (g4 : t 4 = .ptr B 2 0) (g8 : t 8 = bV wb) (g9 : t 9 = bV wp) (g10 : t 10 = nV (b - a)) (g11 : t 11 = nV p) (g12 : t 12 = nV (hintN hint))
    (hab : a < b) (hb : b ≤ L.sz) (hp : p < b) (hN : b - a ≤ N) (hlim : lim < 4611686018427387904) (hS : S = pdqR3 L.lt A a b lim p hint wb wp)
    (hR : ∀ t h, Fr L H B h S → Q .ret t h)
    (hQ : ∀ t h a' b' wb' wp' A', t 1 = nV a' → t 2 = nV b' → t 3 = nV lim → t 4 = .ptr B 2 0 → t 8 = bV wb' → t 9 = bV wp' → a' ≤ b' → b' ≤ L.sz → b' - a' < b - a → Fr L H B h A' → S = pdq L.lt A' a' b' lim wb' wp' → Q .normal t h ∧ Q (.exit 1) t h) :
    @W P env ⟨k_pdq3 fI fH fB fC fR fP fE fT fS⟩ t h ⟨Q⟩ := by
  have big := L.big
  unfold k_pdq3
  unfold pdqR3 at hS
  by_cases hc : (wb && wp && decide (hint = .increasing)) = true
  · rw [if_pos hc] at hS
    obtain ⟨h', c1, l1, k1⟩ := k.kp f.lh a b hab hb
    have f1 := f.next l1 k1
    generalize partialInsertionSort L.lt A a b = pi at *
    simp only [Bool.and_eq_true, decide_eq_true_eq] at hc
    obtain ⟨⟨rfl, rfl⟩, rfl⟩ := hc
    have e1 : hintN .increasing = 1 := rfl
    rw [e1] at g12
    have e2 : ((1 : Nat) : Int) = 1 := rfl
    unfold pdqR3' at hS
    by_cases hpi : pi.2 = true
    · rw [if_pos hpi] at hS
      rw [hpi] at c1
      subst hS
      simp (maxSteps := 2000000) (disch := omega) only [gw, Nat.reduceAdd, Nat.reduceMul, g1, g2, g3, g4, g8, g9, g12, e2, f.ldB, c1]
      exact hR _ _ f1
    · rw [if_neg hpi] at hS
      rw [Bool.not_eq_true] at hpi
      rw [hpi] at c1
      simp (maxSteps := 2000000) (disch := omega) only [gw, Nat.reduceAdd, Nat.reduceMul, g1, g2, g3, g4, g8, g9, g12, e2, f.ldB, c1]
      exact W_pdq4 k f1 g1 g2 g3 g4 g8 g9 g10 g11 hab hb hp hN hlim hS (fun t h a' b' wb' wp' A' q1 q2 q3 q4 q8 q9 q10 q11 q12 q13 q14 => hQ t h a' b' wb' wp' A' q1 q2 q3 q4 q8 q9 q10 q11 q12 q13 q14)
  · rw [if_neg hc] at hS
    unfold pdqR3' at hS
    rw [if_neg Bool.false_ne_true] at hS
    have d : ∀ t', t' 1 = nV a → t' 2 = nV b → t' 3 = nV lim → t' 4 = .ptr B 2 0 → t' 8 = bV wb → t' 9 = bV wp → t' 10 = nV (b - a) → t' 11 = nV p → @W P env ⟨k_pdq4 fI fH fB fC fR fP fE fT fS⟩ t' h ⟨Q⟩ := fun t' q1 q2 q3 q4 q8 q9 q10 q11 =>
      W_pdq4 k f q1 q2 q3 q4 q8 q9 q10 q11 hab hb hp hN hlim hS hQ
    cases wb with
    | false =>
      simp (maxSteps := 2000000) (disch := omega) only [gw, Nat.reduceAdd, Nat.reduceMul, g1, g2, g3, g4, g8, g9, g12]
      exact d _ g1 g2 g3 g4 g8 g9 g10 g11
    | true =>
      cases wp with
      | false =>
        simp (maxSteps := 2000000) (disch := omega) only [gw, Nat.reduceAdd, Nat.reduceMul, g1, g2, g3, g4, g8, g9, g12]
        exact d _ g1 g2 g3 g4 g8 g9 g10 g11
      | true =>
        have hh : ¬ (hintN hint : Int) = 1 := by
          cases hint with
          | increasing => simp at hc
          | unknown => simp [hintN]
          | decreasing => simp [hintN]
        simp (maxSteps := 2000000) (disch := omega) only [gw, Nat.reduceAdd, Nat.reduceMul, g1, g2, g3, g4, g8, g9, g12, hh]
        exact d _ g1 g2 g3 g4 g8 g9 g10 g11

theorem W_pdq2 {L : LS env α} {fI fH fB fC fR fP fE fT fS N : Nat} (k : PdqK L fI fH fB fC fR fP fE fT fS N) {Q : Post} {H h : Heap} {B : Nat} {A S : Array α} {t : Nat → V} (f : Fr L H B h A) {a b lim : Nat} {wb wp : Bool}
    (g1 : t 1 = nV a) (g2 : t 2 = nV b) (g3 : t 3 = nV lim) (g4 : t 4 = .ptr B 2 0) (g8 : t 8 = bV wb) (g9 : t 9 = bV wp) (g10 : t 10 = nV (b - a))
    (hab : a < b) (hb : b ≤ L.sz) (hN : b - a ≤ N) (hlim : lim < 4611686018427387904) (hS : S = pdqR2 L.lt A a b lim wb wp)
    (hR : ∀ t h, Fr L H B h S → Q .ret t h)
    (hQ : ∀ t h a' b' wb' wp' A', t 1 = nV a' → t 2 = nV b' → t 3 = nV lim → t 4 = .ptr B 2 0 → t 8 = bV wb' → t 9 = bV wp' → a' ≤ b' → b' ≤ L.sz → b' - a' < b - a → Fr L H B h A' → S = pdq L.lt A' a' b' lim wb' wp' → Q .normal t h ∧ Q (.exit 1) t h) :
    @W P env ⟨k_pdq2 fI fH fB fC fR fP fE fT fS⟩ t h ⟨Q⟩ := by
  have big := L.big
  unfold k_pdq2
  unfold pdqR2 at hS
  have cr : a ≤ (choosePivot L.lt A a b).1 ∧ (choosePivot L.lt A a b).1 < b := choosePivot_holds L.lt A a b hab
  obtain ⟨h', c1, l1, k1⟩ := k.kc f.lh a b hab hb
  have f1 := f.next l1 k1
  generalize choosePivot L.lt A a b = c at *
  unfold pdqR2' at hS
  by_cases hc : c.2 = .decreasing
  · rw [if_pos hc, if_pos hc, if_pos hc] at hS
    rw [hc] at c1
    have e1 : hintN .decreasing = 2 := rfl
    rw [e1] at c1
    have e2 : ((2 : Nat) : Int) = 2 := rfl
    obtain ⟨h2, c2, l2, k2⟩ := k.kr f1.lh a b hab hb
    have f2 := f1.next l2 k2
    simp (maxSteps := 2000000) (disch := omega) only [gw, Nat.reduceAdd, Nat.reduceMul, g1, g2, g3, g4, g8, g9, f.ldB, c1, e2, f1.ldB, c2]
    exact W_pdq3 k f2 (p := b - 1 - (c.1 - a)) (hint := .increasing) g1 g2 g3 g4 g8 g9 g10 rfl rfl hab hb (by omega) hN hlim hS hR hQ
  · rw [if_neg hc, if_neg hc, if_neg hc] at hS
    have hh : ¬ (hintN c.2 : Int) = 2 := by
      cases e : c.2 with
      | increasing => simp [hintN]
      | unknown => simp [hintN]
      | decreasing => exact absurd e hc
    simp (maxSteps := 2000000) (disch := omega) only [gw, Nat.reduceAdd, Nat.reduceMul, g1, g2, g3, g4, g8, g9, f.ldB, c1, hh]
    exact W_pdq3 k f1 (p := c.1) (hint := c.2) g1 g2 g3 g4 g8 g9 g10 rfl rfl hab hb cr.2 hN hlim hS hR hQ

theorem W_pdq1 {L : LS env α} {fI fH fB fC fR fP fE fT fS N : Nat} (k : PdqK L fI fH fB fC fR fP fE fT fS N) {Q : Post} {H h : Heap} {B : Nat} {A S : Array α} {t : Nat → V} (f : Fr L H B h A) {a b lim : Nat} {wb wp : Bool}
    (g1 : t 1 = nV a) (g2 : t 2 = nV b) (g3 : t 3 = nV lim) (g4 : t 4 = .ptr B 2 0) (g8 : t 8 = bV wb) (g9 : t 9 = bV wp) (g10 : t 10 = nV (b - a))
    (hab : a < b) (hb : b ≤ L.sz) (hN : b - a ≤ N) (hlim : lim < 4611686018427387904) (h0 : 0 < lim) (hS : S = pdqR1 L.lt A a b lim wb wp)
    (hR : ∀ t h, Fr L H B h S → Q .ret t h)
    (hQ : ∀ t h a' b' lim' wb' wp' A', lim' < 4611686018427387904 → t 1 = nV a' → t 2 = nV b' → t 3 = nV lim' → t 4 = .ptr B 2 0 → t 8 = bV wb' → t 9 = bV wp' → a' ≤ b' → b' ≤ L.sz → b' - a' < b - a → Fr L H B h A' → S = pdq L.lt A' a' b' lim' wb' wp' → Q .normal t h ∧ Q (.exit 1) t h) :
    @W P env ⟨k_pdq1 fI fH fB fC fR fP fE fT fS⟩ t h ⟨Q⟩ := by
  have big := L.big
  unfold k_pdq1
  unfold pdqR1 at hS
  cases wb with
  | true =>
    rw [if_neg (by simp), if_neg (by simp)] at hS
    simp (maxSteps := 2000000) (disch := omega) only [gw, Nat.reduceAdd, Nat.reduceMul, g1, g2, g3, g4, g8, g9]
    exact W_pdq2 k f g1 g2 g3 g4 g8 g9 g10 hab hb hN hlim hS hR (fun t h a' b' wb' wp' A' q => hQ t h a' b' lim wb' wp' A' hlim q)
  | false =>
    rw [if_pos (by simp), if_pos (by simp)] at hS
    obtain ⟨h', c1, l1, k1⟩ := k.kb f.lh a b (Nat.le_of_lt hab) hb
    have f1 := f.next l1 k1
    simp (maxSteps := 2000000) (disch := omega) only [gw, Nat.reduceAdd, Nat.reduceMul, g1, g2, g3, g4, g8, g9, f.ldB, c1]
    exact W_pdq2 k f1 (lim := lim - 1) g1 g2 rfl g4 g8 g9 g10 hab hb hN (by omega) hS hR (fun t h a' b' wb' wp' A' q => hQ t h a' b' (lim - 1) wb' wp' A' (by omega) q)

theorem W_pdqsort {L : LS env α} {fI fH fB fC fR fP fE fT fS N : Nat} (k : PdqK L fI fH fB fC fR fP fE fT fS N) {H : Heap} {A : Array α} (hL : L.Lh H A) (a b lim : Nat) (hab : a ≤ b) (hb : b ≤ L.sz) (hN : b - a ≤ N) (hlim : lim < 4611686018427387904) :
    R P env (c_sort_pdqsort_func fI fH fB fC fR fP fE fT fS) [.agg [L.less, L.swap], nV a, nV b, nV lim] H (PostS L H (pdq L.lt A a b lim true true) (.tup [])) := by
  have big := L.big
  rw [c_pdq]
  refine R_of (by simp) ?_
  have f0 := Fr.start hL
  simp (maxSteps := 2000000) (disch := omega) only [gw, Nat.reduceAdd, Nat.reduceMul, L.oneL, L.oneS]
  generalize H ++ [.cells [L.less, L.swap]] = h0 at f0 ⊢
  generalize H.length = B at f0 ⊢
  obtain ⟨S, hS⟩ : ∃ S, S = pdq L.lt A a b lim true true := ⟨_, rfl⟩
  rw [← hS]
  refine W_loopK (fun n t h => ∃ a b lim wb wp A', n = b - a ∧ lim < 4611686018427387904 ∧ t 1 = nV a ∧ t 2 = nV b ∧ t 3 = nV lim ∧ t 4 = .ptr B 2 0 ∧ t 8 = bV wb ∧ t 9 = bV wp ∧ a ≤ b ∧ b ≤ L.sz ∧ b - a ≤ N ∧ Fr L H B h A' ∧ S = pdq L.lt A' a b lim wb wp) (b - a) ⟨a, b, lim, true, true, A, rfl, hlim, rfl, rfl, rfl, rfl, rfl, rfl, hab, hb, hN, f0, hS⟩ ?_
  clear f0 hS hL hab hb hN hlim
  clear h0 lim a b
  rintro K n t h hn hx ⟨a, b, lim, wb, wp, A', rfl, hlim, g1, g2, g3, g4, g8, g9, hab, hb, hN, f, hS⟩
  rw [pdq_R] at hS
  have hret : ∀ t' h', Fr L H B h' S → K .ret t' h' := by
    intro t' h' f2
    refine hx _ _ _ (by simp) ?_
    simp (maxSteps := 2000000) (disch := omega) only [gw, Nat.reduceAdd, Nat.reduceMul]
    exact ⟨rfl, f2.lh, f2.keep⟩
  by_cases h12 : b - a ≤ 12
  · rw [if_pos h12] at hS
    have h12' : ((b - a : Nat) : Int) ≤ 12 := by omega
    obtain ⟨h', c1, l1, k1⟩ := k.ki f.lh a b (by omega) hb
    have f1 := f.next l1 k1
    simp (maxSteps := 2000000) (disch := omega) only [gw, Nat.reduceAdd, Nat.reduceMul, g1, g2, g3, g4, h12', f.ldB, c1]
    exact hret _ _ (by rw [hS]; exact f1)
  · rw [if_neg h12] at hS
    have h12' : ¬ ((b - a : Nat) : Int) ≤ 12 := by omega
    by_cases h0 : lim = 0
    · rw [if_pos h0] at hS
      have h0' : (lim : Int) = 0 := by omega
      obtain ⟨h', c1, l1, k1⟩ := k.kh f.lh a b (by omega) hb
      have f1 := f.next l1 k1
      simp (maxSteps := 2000000) (disch := omega) only [gw, Nat.reduceAdd, Nat.reduceMul, g1, g2, g3, g4, h12', h0', f.ldB, c1]
      exact hret _ _ (by rw [hS]; exact f1)
    · rw [if_neg h0] at hS
      have h0' : ¬ (lim : Int) = 0 := by omega
      simp (maxSteps := 2000000) (disch := omega) only [gw, Nat.reduceAdd, Nat.reduceMul, g1, g2, g3, g4, h12', h0']
      refine W_pdq1 k f g1 g2 g3 g4 g8 g9 rfl (by omega) hb hN hlim (by omega) hS ?_ ?_
      · intro t h f2
        simp (maxSteps := 2000000) (disch := omega) only [gw, Nat.reduceAdd, Nat.reduceMul]
        exact hret _ _ f2
      · intro t h a' b' lim' wb' wp' A2 hl q1 q2 q3 q4 q8 q9 q10 q11 q12 q13 q14
        have e := hn (b' - a') t h q12 ⟨a', b', lim', wb', wp', A2, rfl, hl, q1, q2, q3, q4, q8, q9, q10, q11, by omega, q13, q14⟩
        constructor
        · simp (maxSteps := 2000000) (disch := omega) only [gw, Nat.reduceAdd, Nat.reduceMul]
          exact e
        · simp (maxSteps := 2000000) (disch := omega) only [gw, Nat.reduceAdd, Nat.reduceMul]
          exact e
end Go.AM

set_option linter.unusedVariables false
set_option linter.unusedSimpArgs false
set_option maxRecDepth 20000
namespace Go.AM
open Go.Sort

abbrev sV (v : Value) : V := .i (.s v)

def oneC (v : Value) : Bool := v.oneCell'

def rowAt (z i : Nat) (vs : List Value) : List Value := (vs.drop (i * z)).take z
def swapVs (z : Nat) (vs : List Value) (i j : Nat) : Array Value := setMany (setMany vs.toArray (i * z) (rowAt z j vs)) (j * z) (rowAt z i vs)

open Classical in
/-- Two elements change places, in a row of scalar structs of the function's own. -/
noncomputable def swapFn (z : Nat) (hd : Value) : Fun := fun _ args H => match args with
  | [.i (.s (.int .i64 i)), .i (.s (.int .i64 j)), .hsl b g 0 z' true len, .kv u] =>
      if u = hd ∧ z' = z ∧ 0 < z ∧ g = len * z ∧ 0 ≤ i ∧ i < len ∧ 0 ≤ j ∧ j < len then
        (getCells H b g).bind fun cs => (cs.mapM scal).bind fun vs => if vs.all plain = true then some (.tup [], H.set b (.cells ((swapVs z vs i.toNat j.toNat).toList.map sV))) else none
      else none
  | _ => none

theorem scals_rv {w : World} {base : Nat} {M : Nat → Prop} {H : Heap} {G : List Nat} : ∀ {cs : List V} {vs xs : List Value}, cs.mapM scal = some vs → RVL w base M H G cs xs → xs = vs ∧ cs = vs.map sV
  | [], vs, xs, h, hr => by cases h; cases hr; exact ⟨rfl, rfl⟩
  | c :: cs, vs, xs, h, hr => by
    rw [List.mapM_cons] at h
    obtain ⟨v, h1, h⟩ := Option.bind_eq_some_iff.1 h
    obtain ⟨l, h2, h⟩ := Option.bind_eq_some_iff.1 h
    cases h
    unfold scal at h1
    split at h1
    · cases h1
      cases hr with
      | cons a b =>
        obtain ⟨e1, e2⟩ := scals_rv h2 b
        subst e1
        subst e2
        cases a with
        | i hi => cases hi; exact ⟨rfl, rfl⟩
    · cases h1
theorem rv_scals {w : World} {base : Nat} {M : Nat → Prop} {H : Heap} {G : List Nat} : ∀ (xs : List Value), xs.all plain = true → RVL w base M H G (xs.map sV) xs
  | [], _ => .nil
  | x :: xs, h => by
    simp only [List.all_cons, Bool.and_eq_true] at h
    exact .cons (.i (.s h.1)) (rv_scals xs h.2)

theorem take_putId (cur : Array Value) (F : Array Value) (h : F.size ≤ cur.size) : (putCells id 0 F cur).toList.take F.size = F.toList := by
  apply List.ext_getElem?
  intro j
  by_cases hj : j < F.size
  · rw [List.getElem?_take_of_lt hj, Array.getElem?_toList]
    simp [putCells, hj, show j < cur.size by omega]
  · rw [List.getElem?_take, if_neg hj]
    simp; omega

theorem holdsId {w : World} {g : Nat} {cur : Array Value} {e : TypeId} {F : List Value} (hb : w.heap[g]? = some (.cells cur e (0, 0))) (ht : cur.toList.take F.length = F) : Holds id w g 0 F.toArray := by
  intro j hj
  have hj' : j < F.length := by simpa using hj
  refine ⟨?_, by simp [World.frozen?, hb]⟩
  have h1 : (cur.toList.take F.length)[j]? = F[j]? := by rw [ht]
  rw [List.getElem?_take_of_lt hj', Array.getElem?_toList] at h1
  simp [World.cell?, hb, h1, hj']

theorem mem_setMany {p : Value → Prop} : ∀ (vs : List Value) (s : Nat) (F : Array Value), (∀ x, x ∈ F → p x) → (∀ x, x ∈ vs → p x) → ∀ x, x ∈ setMany F s vs → p x
  | [], s, F, hF, _, x, hx => hF x hx
  | v :: r, s, F, hF, hv, x, hx => by
    rw [setMany] at hx
    refine mem_setMany r (s + 1) _ ?_ (fun y hy => hv y (List.mem_cons_of_mem _ hy)) x hx
    intro y hy
    rcases Array.mem_or_eq_of_mem_setIfInBounds hy with h | h
    · exact hF y h
    · rw [h]; exact hv v (by simp)

theorem size_setMany' (vs : List Value) (s : Nat) (F : Array Value) : (setMany F s vs).size = F.size := size_setMany vs s F
theorem swapVs_size {z i j : Nat} {vs : List Value} : (swapVs z vs i j).size = vs.length := by
  unfold swapVs
  rw [size_setMany, size_setMany]
  simp
theorem rowAt_mem {z i : Nat} {vs : List Value} {x : Value} (h : x ∈ rowAt z i vs) : x ∈ vs := List.mem_of_mem_drop (List.mem_of_mem_take h)
theorem swapVs_all {z i j : Nat} {vs : List Value} (h : vs.all plain = true) : (swapVs z vs i j).toList.all plain = true := by
  rw [List.all_eq_true] at h ⊢
  intro x hx
  have hx : x ∈ swapVs z vs i j := by simpa using hx
  unfold swapVs at hx
  refine mem_setMany (p := fun x => plain x = true) _ _ _ ?_ (fun y hy => h y (rowAt_mem hy)) x hx
  refine mem_setMany (p := fun x => plain x = true) _ _ _ ?_ (fun y hy => h y (rowAt_mem hy))
  intro y hy
  exact h y (by simpa using hy)

theorem rv_hslz {w : World} {base : Nat} {M : Nat → Prop} {H : Heap} {G : List Nat} {b g z len : Nat} {ag : Bool} {x : Value} (h : RV w base M H G (.hsl b g 0 z ag len) x) :
    (∃ a cap, x = .slice (some a) len cap ∧ H[b]? ≠ some .virt ∧ ∀ cs, cellsAt H b g = some cs → HslAt w (G.getD b 0) g 0 z len cap a) ∨ (x = .slice none 0 0 ∧ len = 0) := by
  cases h with
  | hsl _ hn _ _ hat => exact .inl ⟨_, _, rfl, hn, hat⟩
  | hnil _ _ => exact .inr ⟨rfl, rfl⟩

theorem plain_one' {v : Value} (h : plain v = true) : v.oneCell' = true := by cases v <;> simp_all [plain, Value.oneCell']

theorem args4 {w : World} {base : Nat} {M : Nat → Prop} {H : Heap} {G : List Nat} {i j : Int} {y : V} {u : Value} {xs : List Value} (h : RVL w base M H G [.i (.s (.int .i64 i)), .i (.s (.int .i64 j)), y, .kv u] xs) :
    ∃ x, xs = [.int .i64 i, .int .i64 j, x, u] ∧ RV w base M H G y x := by
  cases h with
  | cons a h =>
    cases h with
    | cons b h =>
      cases h with
      | cons c h =>
        cases h with
        | cons d h =>
          cases h
          cases a with
          | i a =>
            cases a
            cases b with
            | i b =>
              cases b
              cases d
              exact ⟨_, rfl, c⟩

theorem swapFn_ok {P : Program} {f : FuncId} {z : Nat} {e : TypeId} {ie : TypeInfo} (gS : Bool) (hx : ∀ args W, (callFunc f args).run P W = ((Extern.ReflectliteSwapper.swap gS args).run P W).andThen fun v w' => .ok (.value v) w')
    (hie : P.info? e = some ie) (hs : ie.size = z) (hagg : ∀ w, (isAgg e).run P w = .ok true w) : FunOK P f (swapFn z (typeHandle P e)) := by
  intro slot args H v H' hg
  refine .inr ?_
  unfold swapFn at hg
  split at hg
  case h_2 => cases hg
  rename_i i j b g z' len u
  split at hg
  case isFalse => cases hg
  rename_i hc
  obtain ⟨rfl, rfl, hz, hgl, hi0, hi, hj0, hj⟩ := hc
  subst hs
  obtain ⟨cs, hcs, hg⟩ := Option.bind_eq_some_iff.1 hg
  obtain ⟨vs, hvs, hg⟩ := Option.bind_eq_some_iff.1 hg
  split at hg
  case isFalse => cases hg
  rename_i hpl
  simp only [Option.some.injEq, Prod.mk.injEq] at hg
  obtain ⟨rfl, rfl⟩ := hg
  obtain ⟨i, rfl⟩ : ∃ n : Nat, i = (n : Int) := ⟨i.toNat, by omega⟩
  obtain ⟨j, rfl⟩ : ∃ n : Nat, j = (n : Int) := ⟨j.toNat, by omega⟩
  replace hi : i < len := by omega
  replace hj : j < len := by omega
  simp only [Int.toNat_natCast]
  intro base X w G xs hS hl
  obtain ⟨x, hxs, hxv⟩ := args4 hl
  obtain rfl : xs = #[.int .i64 i, .int .i64 j, x, typeHandle P e] := by apply Array.ext'; exact hxs
  clear hxs hl
  rcases rv_hslz hxv with ⟨a, cap, rfl, hn, hat⟩ | ⟨rfl, h0⟩
  case inr => omega
  replace hcs := getCells_not hcs hn
  obtain ⟨arr, ty, g1, e1, e2, e3, e4, e5, e6⟩ := hS.at hcs
  have hA := (hat cs hcs).1 (.inl (by omega))
  subst hA
  clear hat hxv
  generalize G.getD b 0 = k0 at *
  obtain ⟨q1, q2⟩ := scals_rv hvs e4
  have hlen : cs.length = vs.length := by rw [q2]; simp
  have hvl : vs.length = len * ie.size := by omega
  have hH : Holds id w (k0) 0 vs.toArray := holdsId e1 (by rw [← hlen]; exact q1)
  have le : ∀ k, k < len → k * ie.size + ie.size ≤ vs.length := fun k hk => by
    have := Nat.mul_le_mul_right ie.size (show k + 1 ≤ len from hk)
    rw [Nat.add_mul, Nat.one_mul] at this
    omega
  have lenR : ∀ k, k < len → (rowAt ie.size k vs).length = ie.size := fun k hk => by
    have := le k hk
    unfold rowAt
    rw [List.length_take, List.length_drop]
    omega
  have oneR : ∀ k, ∀ v ∈ rowAt ie.size k vs, v.oneCell' = true := fun k v hv => plain_one' (List.all_eq_true.1 hpl v (rowAt_mem hv))
  have cR : ∀ r, r < len → ∀ k v, (rowAt ie.size r vs)[k]? = some v → w.cell? ⟨k0, 0 + r * ie.size + k, none⟩ = some v := fun r hr k v hv => by
    have hk : k < ie.size := by rw [← lenR r hr]; exact (List.getElem?_eq_some_iff.1 hv).1
    have := le r hr
    have h1 := (hH (r * ie.size + k) (by simp; omega)).1
    rw [Nat.zero_add] at h1 ⊢
    rw [h1]
    unfold rowAt at hv
    rw [List.getElem?_take_of_lt hk, List.getElem?_drop] at hv
    simp [hv]
  have fR : ∀ r, r < len → ∀ k, k < ie.size → w.frozen? ⟨k0, 0 + r * ie.size + k, none⟩ = false := fun r hr k hk => by
    have := le r hr
    have h1 := (hH (r * ie.size + k) (by simp; omega)).2
    rw [Nat.zero_add] at h1 ⊢
    exact h1
  have hrun := Lib.run_swap_cells (P := P) gS e ie hie hagg (k0) 0 len cap i j hi hj (rowAt ie.size i vs) (rowAt ie.size j vs) (lenR i hi) (lenR j hj) (oneR i) (oneR j) w (cR i hi) (cR j hj) (fR i hi) (fR j hj)
  have hW : (w.setCells (k0) (0 + i * ie.size) (rowAt ie.size j vs)).setCells (k0) (0 + j * ie.size) (rowAt ie.size i vs) = putRow id w (k0) 0 (swapVs ie.size vs i j) := by
    have hw := putRow_self id w (k0) 0 vs.toArray hH
    have h1 := setCells_putRow w (k0) 0 (rowAt ie.size j vs) (i * ie.size) vs.toArray (by have := le i hi; rw [lenR j hj]; simpa using this)
    rw [hw] at h1
    rw [h1, setCells_putRow w (k0) 0 (rowAt ie.size i vs) (j * ie.size) _ (by have := le j hj; rw [lenR i hi, size_setMany]; simpa using this)]
    rfl
  rw [hW] at hrun
  have hsz := swapVs_size (z := ie.size) (i := i) (j := j) (vs := vs)
  have hall := swapVs_all (z := ie.size) (i := i) (j := j) hpl
  generalize swapVs ie.size vs i j = F at hrun hsz hall ⊢
  have hb1 : (putRow id w (k0) 0 F).heap[k0]? = some (.cells (putCells id 0 F arr) ty (0, 0)) := by
    simp [putRow, mapBlock, Array.getElem?_modify, e1, onCells]
  have hold : ∀ k', k' ≠ k0 → (putRow id w (k0) 0 F).heap[k']? = w.heap[k']? := fun k' hk => by
    have : k0 ≠ k' := fun e => hk e.symm
    simp only [putRow, mapBlock, Array.getElem?_modify]
    rw [if_neg this]
  obtain ⟨hE, hS'⟩ := change_ok (cs' := F.toList.map sV) hS e6 g1 e1 hb1 (by simp [putCells]) (by simp; omega) (by simp [putCells]; omega) rfl rfl rfl (by simp [putRow, mapBlock]) hold (by
    rw [show (F.toList.map sV).length = F.size by simp, take_putId arr F (by omega)]
    exact rv_scals _ hall) (by
    intro y hy
    obtain ⟨s, hs, rfl⟩ := List.mem_map.1 hy
    have := List.all_eq_true.1 hall s hs
    simp [V.one])
  refine ⟨.tuple #[], _, G, ?_, hE, hS', .tup .nil⟩
  rw [hx, hrun]
  rfl
end Go.AM

set_option linter.unusedVariables false
set_option linter.unusedSimpArgs false
namespace Go.AM
open Go.Sort

/-- The environment in which the functions of T may be called, n deep. -/
noncomputable def envN (P : Program) (base : Env) (T : Nat → Option AFn) : Nat → Env
  | 0 => base
  | n + 1 => fun c slot args h => if c % 2 = 0 then base c slot args h else match T (c / 2) with
    | some F => runFn P (envN P base T n) F args h
    | none => base c slot args h

section
variable {P : Program} {base : Env} {T : Nat → Option AFn} {α : Type} [Inhabited α]

theorem envN_even {n f : Nat} : envN P base T n (2 * f) = base (2 * f) := by
  cases n with
  | zero => rfl
  | succ n =>
    funext slot args h
    simp only [envN]
    rw [if_pos (by omega)]
theorem envN_odd {n f : Nat} {F : AFn} (hT : T f = some F) : envN P base T (n + 1) (2 * f + 1) = runIn P (envN P base T n) F := by
  funext slot args h
  simp only [envN]
  rw [if_neg (by omega), show (2 * f + 1) / 2 = f by omega, hT]
  rfl
theorem dynV_envN {n : Nat} {f : V} {args : List V} {h : Heap} : dynV (envN P base T n) f args h = dynV base f args h := by
  cases f <;> simp only [dynV, envN_even]

theorem envN_ok {md : Modes} (hb : EnvOK P base) (hT : ∀ f F, T f = some F → callable P f = true ∧ compFn P (fun _ => false) md f = some F) : ∀ n, EnvOK P (envN P base T n)
  | 0 => hb
  | n + 1 => by
    intro c slot args H v H' h
    simp only [envN] at h
    split at h
    · exact hb c slot args H v H' h
    · split at h
      · rename_i F hF
        obtain ⟨h1, h2⟩ := hT _ F hF
        exact .inl ⟨h1, fn_ok (envN_ok hb hT n) (fun f hf => by cases hf) h2 h⟩
      · exact hb c slot args H v H' h

/-- The same order and row, further up. -/
def LS.at (L : LS base α) (P : Program) (T : Nat → Option AFn) (n : Nat) : LS (envN P base T n) α where
  less := L.less
  swap := L.swap
  lt := L.lt
  n := L.n
  sz := L.sz
  Lh := L.Lh
  low := L.low
  size := L.size
  big := L.big
  oneL := L.oneL
  oneS := L.oneS
  nilL := L.nilL
  nilS := L.nilS
  same := L.same
  lessW hL i j hi hj := by rw [dynV_envN]; exact L.lessW hL i j hi hj
  swapW hL i j hi hj := by
    obtain ⟨h', h1, h2⟩ := L.swapW hL i j hi hj
    exact ⟨h', by rw [dynV_envN]; exact h1, h2⟩

theorem CS.step {L : LS base α} {n f : Nat} {F : AFn} {args : List V} {H : Heap} {A' : Array α} {v0 : V} (hT : T f = some F) (h : R P (envN P base T n) F args H (PostS (L.at P T n) H A' v0)) : CS (L.at P T (n + 1)) (2 * f + 1) args H A' v0 := by
  obtain ⟨⟨v, h'⟩, h1, h2⟩ := h
  have p : PostS (L.at P T n) H A' v0 v h' := h2
  refine ⟨h', ?_, p.lh, p.keep⟩
  rw [envN_odd hT]
  exact h1.trans (by rw [p.val])
theorem CP.step {L : LS base α} {n f C s : Nat} {F : AFn} {args : List V} {H : Heap} {A : Array α} {v0 : V} (hT : T f = some F) (h : R P (envN P base T n) F args H (PostP (L.at P T n) C s H A v0)) : CP (L.at P T (n + 1)) (2 * f + 1) args C s H A v0 := by
  obtain ⟨⟨v, h'⟩, h1, h2⟩ := h
  have p : PostP (L.at P T n) C s H A v0 v h' := h2
  refine ⟨h', ?_, p.lh, p.keep, p.cell⟩
  rw [envN_odd hT]
  exact h1.trans (by rw [p.val])

/-- Which code is whose. -/
structure SortT (T : Nat → Option AFn) (fI fH fB fC fR fP fE fT fS fD fO fM fA fX fN : Nat) : Prop where
  tI : T fI = some c_sort_insertionSort_func
  tD : T fD = some c_sort_siftDown_func
  tH : T fH = some (c_sort_heapSort_func fD)
  tR : T fR = some c_sort_reverseRange_func
  tP : T fP = some c_sort_partialInsertionSort_func
  tE : T fE = some c_sort_partitionEqual_func
  tT : T fT = some c_sort_partition_func
  tO : T fO = some c_sort_order2_func
  tM : T fM = some (c_sort_median_func fO)
  tA : T fA = some (c_sort_medianAdjacent_func fM)
  tC : T fC = some (c_sort_choosePivot_func fA fM)
  tX : T fX = some c_sort_xorshift_Next
  tB : T fB = some (c_sort_breakPatterns_func fN fX)
  tS : T fS = some (c_sort_pdqsort_func fI fH fB fC fR fP fE fT fS)

variable {fI fH fB fC fR fP fE fT fS fD fO fM fA fX fN : Nat}

theorem pdq_all (t : SortT T fI fH fB fC fR fP fE fT fS fD fO fM fA fX fN) (L : LS base α) (kn : ∀ (h : Heap) (l : Nat), l < 4611686018427387904 → base (2 * fN) none [nV l] h = some (uV (1 <<< bitsLen l), h)) :
    ∀ (N n : Nat), N ≤ n → ∀ {H : Heap} {A : Array α}, L.Lh H A → ∀ a b lim : Nat, a ≤ b → b ≤ L.sz → b - a ≤ N → lim < 4611686018427387904 →
      CS (L.at P T (n + 5)) (2 * fS + 1) [.agg [L.less, L.swap], nV a, nV b, nV lim] H (pdq L.lt A a b lim true true) (.tup []) := by
  have kn' : ∀ n (h : Heap) (l : Nat), l < 4611686018427387904 → envN P base T n (2 * fN) none [nV l] h = some (uV (1 <<< bitsLen l), h) := fun n h l hl => by rw [envN_even]; exact kn h l hl
  have kD : ∀ n {H A}, L.Lh H A → ∀ lo hi first : Nat, first + hi ≤ L.sz → lo ≤ L.sz → CS (L.at P T (n + 1)) (2 * fD + 1) [.agg [L.less, L.swap], nV lo, nV hi, nV first] H (siftDown L.lt hi first lo A) (.tup []) :=
    fun n H A hL lo hi first h1 h2 => CS.step t.tD (W_siftDown (L := L.at P T n) hL lo hi first h1 h2)
  have kO : ∀ n {H A}, L.Lh H A → ∀ a b C s : Nat, a < L.sz → b < L.sz → L.n ≤ C → H[C]? = some (.cells [nV s]) → s < 100 →
      CP (L.at P T (n + 1)) (2 * fO + 1) [.agg [L.less, L.swap], nV a, nV b, .ptr C 1 0] C (order2 L.lt A a b s).2.2 H A (.tup [nV (order2 L.lt A a b s).1, nV (order2 L.lt A a b s).2.1]) :=
    fun n H A hL a b C s h1 h2 h3 h4 h5 => CP.step t.tO (W_order2 (L := L.at P T n) hL a b C s h1 h2 h3 h4 h5)
  have kM : ∀ n {H A}, L.Lh H A → ∀ a b c s C : Nat, a < L.sz → b < L.sz → c < L.sz → L.n ≤ C → H[C]? = some (.cells [nV s]) → s < 50 →
      CP (L.at P T (n + 2)) (2 * fM + 1) [.agg [L.less, L.swap], nV a, nV b, nV c, .ptr C 1 0] C (median L.lt A a b c s).2 H A (nV (median L.lt A a b c s).1) :=
    fun n H A hL a b c s C h1 h2 h3 h4 h5 h6 => CP.step t.tM (W_median (L := L.at P T (n + 1)) (fun {H} hL a b s q1 q2 q3 q4 => kO n hL a b C s q1 q2 h4 q3 q4) hL a b c s h1 h2 h3 h4 h5 h6)
  have kA : ∀ n {H A}, L.Lh H A → ∀ a s C : Nat, a + 1 < L.sz → 1 ≤ a → L.n ≤ C → H[C]? = some (.cells [nV s]) → s < 50 →
      CP (L.at P T (n + 3)) (2 * fA + 1) [.agg [L.less, L.swap], nV a, .ptr C 1 0] C (medianAdjacent L.lt A a s).2 H A (nV (medianAdjacent L.lt A a s).1) :=
    fun n H A hL a s C h1 h2 h3 h4 h5 => CP.step t.tA (W_medianAdjacent (L := L.at P T (n + 2)) (fun {H} hL a b c s q1 q2 q3 q4 q5 => kM n hL a b c s C q1 q2 q3 h3 q4 q5) hL a s h1 h2 h3 h4 h5)
  have kX : ∀ n (h : Heap) (C X : Nat), X < 18446744073709551616 → h[C]? = some (.cells [uV X]) → envN P base T (n + 1) (2 * fX + 1) none [.ptr C 1 0] h = some (uV (xorNextN X), h.set C (.cells [uV (xorNextN X)])) := fun n h C X hX hC => by
    obtain ⟨⟨v, h'⟩, h1, h2⟩ := W_Next (P := P) (env := envN P base T n) hX hC
    rw [envN_odd t.tX]
    have h2 : v = uV (xorNextN X) ∧ h' = h.set C (.cells [uV (xorNextN X)]) := h2
    obtain ⟨rfl, rfl⟩ := h2
    exact h1
  have K : ∀ n N, (∀ {H : Heap} {A : Array α}, L.Lh H A → ∀ a b lim : Nat, a ≤ b → b ≤ L.sz → b - a < N → lim < 4611686018427387904 → CS (L.at P T (n + 4)) (2 * fS + 1) [.agg [L.less, L.swap], nV a, nV b, nV lim] H (pdq L.lt A a b lim true true) (.tup [])) →
      PdqK (L.at P T (n + 4)) fI fH fB fC fR fP fE fT fS N := fun n N hs =>
    { ki := fun {H A} hL a b h1 h2 => CS.step t.tI (W_insertionSort (L := L.at P T (n + 3)) hL a b h2 h1)
      kh := fun {H A} hL a b h1 h2 => CS.step t.tH (W_heapSort (L := L.at P T (n + 3)) (kD (n + 2)) hL a b h2 h1)
      kb := fun {H A} hL a b h1 h2 => CS.step t.tB (W_breakPatterns (L := L.at P T (n + 3)) (kn' (n + 3)) (kX (n + 2)) hL a b h1 h2)
      kc := fun {H A} hL a b h1 h2 => CS.step t.tC (W_choosePivot (L := L.at P T (n + 3)) (kA n) (kM (n + 1)) hL a b h1 h2)
      kr := fun {H A} hL a b h1 h2 => CS.step t.tR (W_reverseRange (L := L.at P T (n + 3)) hL a b h2 h1)
      kp := fun {H A} hL a b h1 h2 => CS.step t.tP (W_partialInsertionSort (L := L.at P T (n + 3)) hL a b h2 h1)
      ke := fun {H A} hL a b p h1 h2 h3 => CS.step t.tE (W_partitionEqual (L := L.at P T (n + 3)) hL a b p h2 h1 h3)
      kt := fun {H A} hL a b p h1 h2 h3 => CS.step t.tT (W_partition (L := L.at P T (n + 3)) hL a b p h2 h1 h3)
      ks := hs }
  intro N
  induction N with
  | zero =>
    intro n _ H A hL a b lim h1 h2 h3 h4
    exact CS.step t.tS (W_pdqsort (L := L.at P T (n + 4)) (K n 0 (fun _ _ _ _ _ _ h => absurd h (Nat.not_lt_zero _))) hL a b lim h1 h2 h3 h4)
  | succ N ih =>
    intro n hn H A hL a b lim h1 h2 h3 h4
    obtain ⟨m, rfl⟩ : ∃ m, n = m + 1 := ⟨n - 1, by omega⟩
    exact CS.step t.tS (W_pdqsort (L := L.at P T (m + 1 + 4)) (K (m + 1) (N + 1) (fun hL a b lim q1 q2 q3 q4 => ih m (by omega) hL a b lim q1 q2 (by omega) q4)) hL a b lim h1 h2 h3 h4)
end
end Go.AM

set_option linter.unusedVariables false
set_option linter.unusedSimpArgs false
namespace Go.AM
open Go.Sort Go.Shelf

/-- sort.Slice at a slice of structs: what its pdqsort does. -/
noncomputable def sliceFn (P : Program) (base : Env) (T : Nat → Option AFn) (pd : AFn) (tid z fW : Nat) (hd : Value) : Fun := fun _ args H => match args with
  | [.ifc t (.hsl b g 0 z' true len), .clo gid caps] => if t = tid ∧ z' = z then
      (if len ≤ 1 then some (.tup [], H)
       else if len < 4611686018427387904 then runFn P (envN P base T (len + 4)) pd [.agg [.clo gid caps, .clo fW [.hsl b g 0 z' true len, .kv hd]], nV 0, nV len, nV (Lib.bitLen len)] H
       else none) else none
  | _ => none

theorem args2 {w : World} {base : Nat} {M : Nat → Prop} {H : Heap} {G : List Nat} {t g : Nat} {y : V} {caps : List V} {xs : Array Value} (h : RVL w base M H G [.ifc t y, .clo g caps] xs.toList) :
    ∃ x ys, xs = #[.iface t x, .func (.func g) #[] ys] ∧ RV w base M H G y x ∧ RVL w base M H G caps ys.toList := by
  generalize hl : xs.toList = l at h
  cases h with
  | cons a h =>
    cases h with
    | cons b h =>
      cases h
      cases a with
      | ifc a =>
        cases b with
        | clo b => exact ⟨_, _, by apply Array.ext'; exact hl, a, b⟩

theorem runFn_none {P : Program} {env : Env} {F : AFn} {args : List V} {H H' : Heap} {v : V} (hr : F.res = []) (h : runFn P env F args H = some (v, H')) : v = .tup [] := by
  unfold runFn at h
  split at h
  · obtain ⟨p, h1, h2⟩ := Option.bind_eq_some_iff.1 h
    rw [hr] at h2
    have e : ∀ st, retV st [] = some (.tup []) := fun st => rfl
    split at h2
    · cases h2
    · rw [e] at h2
      cases h2
      rfl
  · cases h

theorem sliceFn_ok {P : Program} {ρ : Ren} (L : Go.Proofs.LaysGg.n6 P ρ) (t e : TypeId) (i ie : TypeInfo) (hi : P.info? t = some i) (hd : i.desc = .slice e) (hpk : P.packed t = false) (hie : P.info? e = some ie) (ke : Nat) (hke : ∀ w, (Extern.Rtype.kind e).run P w = .ok ke w)
    (fW : Nat) (hf : ∀ n, ∃ f, P.funcs.findIdx? (·.name == "internal/reflectlite" ++ ".Swapper$" ++ toString (Lib.swapperK n ie ke)) = some f)
    (hfW : ∀ n, 2 ≤ n → P.funcs.findIdx? (·.name == "internal/reflectlite" ++ ".Swapper$" ++ toString (Lib.swapperK n ie ke)) = some fW)
    (hcall : callable P (ρ.f 6) = true) {base : Env} {T : Nat → Option AFn} {md : Modes} {pd : AFn} (hE : ∀ n, EnvOK P (envN P base T n)) (hc : compFn P (fun _ => false) md (ρ.f 14) = some pd) (hres : pd.res = []) (z : Nat) :
    FunOK P (ρ.f 6) (sliceFn P base T pd t z fW (typeHandle P e)) := by
  intro slot args H v H' hg
  refine .inl ⟨hcall, ?_⟩
  unfold sliceFn at hg
  split at hg
  case h_2 => cases hg
  rename_i t' b g z' len gid caps
  split at hg
  case isFalse => cases hg
  rename_i ht
  obtain ⟨rfl, rfl⟩ := ht
  intro base0 X w G xs hS hl
  obtain ⟨x, ys, rfl, hx, hy⟩ := args2 hl
  obtain ⟨p, cap, rfl⟩ : ∃ p cap, x = .slice p len cap := by
    rcases rv_hslz hx with ⟨a, cap, rfl, _⟩ | ⟨rfl, h0⟩
    · exact ⟨_, _, rfl⟩
    · exact ⟨none, 0, by rw [h0]⟩
  split at hg
  · rename_i h1
    simp only [Option.some.injEq, Prod.mk.injEq] at hg
    obtain ⟨rfl, rfl⟩ := hg
    obtain ⟨f, hf⟩ := hf len
    refine (Go.Proofs.Any.sort_Slice_tiny L t' e i ie hi hd hpk hie ke hke p len cap h1 f hf (.func gid) #[] ys w).mono ?_
    rintro e w' ⟨rfl, os, rfl⟩
    have hk : ∀ k, k < w.heap.size → (grow w os).heap[k]? = w.heap[k]? := fun k hk => heap_grow_old _ _ hk
    have hE2 := Ext.quiet hS (w' := grow w os) rfl rfl rfl (by simp [grow]) hk
    exact ⟨_, G, rfl, hE2, hS.quiet hE2 hk, .tup .nil⟩
  · rename_i h1
    split at hg
    case isFalse => cases hg
    rename_i h2
    obtain rfl := runFn_none hres hg
    have hF := fn_ok (hE _) (fun f hf => by cases hf) hc hg
    have hB : Go.Proofs.sliceBound P e ie ke p len cap = #[.slice p len cap, typeHandle P e] := by
      unfold Go.Proofs.sliceBound; rw [if_neg (Go.Proofs.swapperK_gt _ _ _ (by omega))]
    have hW : ∃ os0, Go.Proofs.sliceWorld P ρ t' p len cap w = grow w os0 := by
      unfold Go.Proofs.sliceWorld; rw [alloc_eq_grow, alloc_eq_grow, grow_grow]; exact ⟨_, rfl⟩
    obtain ⟨os0, hW⟩ := hW
    have hk : ∀ k, k < w.heap.size → (grow w os0).heap[k]? = w.heap[k]? := fun k hk => heap_grow_old _ _ hk
    have hE2 := Ext.quiet hS (w' := grow w os0) rfl rfl rfl (by simp [grow]) hk
    have hS2 := hS.quiet hE2 hk
    have hC := hF base0 X (grow w os0) G #[.agg #[.func (.func gid) #[] ys, .func (.func fW) #[] #[.slice p len cap, typeHandle P e]], .int .i64 0, .int .i64 len, .int .i64 (Lib.bitLen len)] hS2
      (.cons (.agg (.cons (.clo (RVL.ext hE2 hy)) (.cons (.clo (.cons (RV.ext hE2 hx) (.cons (.kv rfl) .nil))) .nil))) (.cons (.i (.s rfl)) (.cons (.i (.s rfl)) (.cons (.i (.s rfl)) .nil))))
    refine (Go.Proofs.Any.sort_Slice_of_pdq L t' e i ie hi hd hpk hie ke hke p len cap h2 fW (hfW len (by omega)) (.func gid) #[] ys w (fun w' => ∃ G', Ext (grow w os0) H G w' H' G' ∧ SimH base0 X w' H' G') ?_).mono ?_
    · rw [hB, hW]
      refine hC.mono ?_
      rintro e w' ⟨x, G', rfl, q1, q2, q3⟩
      refine ⟨?_, G', q1, q2⟩
      cases q3 with
      | tup q3 =>
        rename_i xs
        have : xs = #[] := by
          apply Array.ext'
          generalize xs.toList = l at q3
          cases q3
          rfl
        rw [this]
    · rintro e w' ⟨rfl, G', q1, q2⟩
      exact ⟨_, G', rfl, hE2.trans q1, q2, .tup .nil⟩
end Go.AM

set_option linter.unusedVariables false
set_option linter.unusedSimpArgs false
namespace Go.AM
open Go.Sort

/-- Structs of scalars. -/
structure Scal (α : Type) [Pic α] where
  encS : α → List Value
  hE : ∀ x, cellsV x = (encS x).map sV
  hz : ∀ x, (encS x).length = Pic.z α
  hp : ∀ x, (encS x).all plain = true
  z0 : 0 < Pic.z α

theorem flat_get {α : Type} {f : α → List Value} {z : Nat} (hz : ∀ x, (f x).length = z) : ∀ (l : List α) (i c : Nat), c < z → (l.flatMap f)[i * z + c]? = (l[i]?).bind fun x => (f x)[c]?
  | [], i, c, hc => by simp
  | x :: l, 0, c, hc => by
    rw [List.flatMap_cons, Nat.zero_mul, Nat.zero_add, List.getElem?_append_left (by rw [hz]; exact hc)]
    rfl
  | x :: l, i + 1, c, hc => by
    rw [List.flatMap_cons, List.getElem?_append_right (by rw [hz, Nat.add_mul, Nat.one_mul]; omega), hz, show (i + 1) * z + c - z = i * z + c by rw [Nat.add_mul, Nat.one_mul]; omega, flat_get hz l i c hc]
    rfl
theorem flat_len {α : Type} {f : α → List Value} {z : Nat} (hz : ∀ x, (f x).length = z) : ∀ (l : List α), (l.flatMap f).length = l.length * z
  | [] => by simp
  | x :: l => by rw [List.flatMap_cons, List.length_append, hz, flat_len hz l, List.length_cons, Nat.add_mul, Nat.one_mul, Nat.add_comm]

theorem flat_flatK {α : Type} [Inhabited α] {f : α → List Value} {z : Nat} (hz : ∀ x, (f x).length = z) (h0 : 0 < z) (A : Array α) : A.toList.flatMap f = (flatK f z A).toList := by
  apply List.ext_getElem?
  intro t
  by_cases ht : t < A.size * z
  · have h1 : t / z < A.size := (Nat.div_lt_iff_lt_mul h0).2 ht
    have h2 : t % z < z := Nat.mod_lt _ h0
    have h3 := flat_get hz A.toList (t / z) (t % z) h2
    rw [Nat.div_add_mod' t z] at h3
    rw [h3]
    simp only [Array.getElem?_toList]
    have h4 : t < (flatK f z A).size := by rw [size_flatK]; exact ht
    have h5 := get_flatK f z A t ht
    rw [getElem!_pos _ t h4] at h5
    rw [Array.getElem?_eq_getElem h4, h5]
    have h6 : t % z < (f A[t / z]!).length := by rw [hz]; exact h2
    rw [getElem!_pos (f A[t / z]!) (t % z) h6]
    rw [Array.getElem?_eq_getElem h1, Option.bind_some, ← getElem!_pos A (t / z) h1, List.getElem?_eq_getElem h6]
  · rw [List.getElem?_eq_none (by rw [flat_len hz, Array.length_toList]; omega), List.getElem?_eq_none (by rw [Array.length_toList, size_flatK]; omega)]

theorem rowAt_flat {α : Type} [Inhabited α] {f : α → List Value} {z : Nat} (hz : ∀ x, (f x).length = z) (A : Array α) {i : Nat} (hi : i < A.size) : rowAt z i (A.toList.flatMap f) = f A[i]! := by
  apply List.ext_getElem?
  intro c
  unfold rowAt
  by_cases hc : c < z
  · rw [List.getElem?_take_of_lt hc, List.getElem?_drop, flat_get hz A.toList i c hc, Array.getElem?_toList, Array.getElem?_eq_getElem hi, getElem!_pos A i hi]
    rfl
  · rw [List.getElem?_take, if_neg hc, List.getElem?_eq_none (by rw [hz]; omega)]

theorem swapVs_flat {α : Type} [Inhabited α] {f : α → List Value} {z : Nat} (hz : ∀ x, (f x).length = z) (h0 : 0 < z) (A : Array α) {i j : Nat} (hi : i < A.size) (hj : j < A.size) : (swapVs z (A.toList.flatMap f) i j).toList = (swp A i j).toList.flatMap f := by
  unfold swapVs
  rw [rowAt_flat hz A hi, rowAt_flat hz A hj, flat_flatK hz h0 A, flat_flatK hz h0 (swp A i j), ← setMany_swp f z hz A i j hi hj]

theorem rows_flat {α : Type} [Pic α] (S : Scal α) : ∀ (l : List α), rows l = (l.flatMap S.encS).map sV
  | [] => rfl
  | x :: l => by
    show cellsV x ++ rows l = _
    rw [rows_flat S l, S.hE, List.flatMap_cons, List.map_append]
theorem scal_sV : ∀ (vs : List Value), (vs.map sV).mapM scal = some vs
  | [] => rfl
  | v :: vs => by
    rw [List.map_cons, List.mapM_cons, scal_sV vs]
    rfl
theorem flat_plain {α : Type} [Pic α] (S : Scal α) (l : List α) : (l.flatMap S.encS).all plain = true := by
  rw [List.all_flatMap, List.all_eq_true]
  intro x _
  exact S.hp x

/-- The list in order, as Go's own sort has it. -/
def sortL {α : Type} [Inhabited α] (lt : α → α → Bool) (xs : List α) : List α := if xs.length ≤ 1 then xs else (pdq lt xs.toArray 0 xs.length (Lib.bitLen xs.length) true true).toList

theorem extract_all {α : Type} {d : Array α} {n : Nat} (h : n = d.size) : (d.extract 0 n).toList = d.toList := by
  subst h; simp

theorem sortL_perm {α : Type} [Inhabited α] {lt : α → α → Bool} (hO : SWO lt) (xs : List α) : (sortL lt xs).Perm xs := by
  unfold sortL
  split
  · exact List.Perm.refl _
  · have h := (pdq_sorts lt hO xs.toArray 0 xs.length (Lib.bitLen xs.length) true true (Nat.zero_le _) (by simp) (Or.inl rfl)).1
    have h2 := h.2.2
    rw [extract_all (by rw [h.1]; simp), extract_all (by simp)] at h2
    simpa using h2
theorem sortL_sorted {α : Type} [Inhabited α] {lt : α → α → Bool} (hO : SWO lt) (xs : List α) : (sortL lt xs).Pairwise fun x y => lt y x = false := by
  unfold sortL
  split
  · rename_i h
    match xs, h with
    | [], _ => exact List.Pairwise.nil
    | [x], _ => exact List.pairwise_singleton _ _
  · have h := pdq_sorts lt hO xs.toArray 0 xs.length (Lib.bitLen xs.length) true true (Nat.zero_le _) (by simp) (Or.inl rfl)
    have hs := h.1.1
    have h2 := h.2
    generalize pdq lt xs.toArray 0 xs.length (Lib.bitLen xs.length) true true = d at hs h2
    rw [List.pairwise_iff_getElem]
    intro i j hi hj hij
    have hi' : i < d.size := by simpa using hi
    have hj' : j < d.size := by simpa using hj
    have := h2 i j (Nat.zero_le _) hij (by simp at hs; omega)
    rw [getElem!_pos d i hi', getElem!_pos d j hj'] at this
    simpa using this
theorem sortL_len {α : Type} [Inhabited α] {lt : α → α → Bool} (hO : SWO lt) (xs : List α) : (sortL lt xs).length = xs.length := (sortL_perm hO xs).length_eq

section
variable {α : Type} [Pic α] [Inhabited α]
/-- A row that the sort may turn, all below it standing still. -/
structure RowH (b len : Nat) (H0 H : Heap) (A : Array α) : Prop where
  size : A.size = len
  le : H0.length ≤ H.length
  row : H[b]? = some (.cells (rows A.toList))
  keep : ∀ x, x < H0.length → x ≠ b → H[x]? = H0[x]?

def rowLS {base : Env} (S : Scal α) (gid fW b c len : Nat) (hd : Value) (lt : α → α → Bool) (H0 : Heap) (hs : base (2 * fW) = swapFn (Pic.z α) hd)
    (hl : ∀ (H : Heap) (A : Array α), H[b]? = some (.cells (rows A.toList)) → H[c]? = some (.cells [.hsl b (len * Pic.z α) 0 (Pic.z α) true len]) → A.size = len → ∀ i j : Nat, i < len → j < len → base (2 * gid) none [nV i, nV j, .ptr c 1 0] H = some (bV (lt A[i]! A[j]!), H))
    (hb : b < H0.length) (hbc : c ≠ b) (hc : H0[c]? = some (.cells [.hsl b (len * Pic.z α) 0 (Pic.z α) true len])) (hlen : len < 4611686018427387904) : LS base α where
  less := .clo gid [.ptr c 1 0]
  swap := .clo fW [.hsl b (len * Pic.z α) 0 (Pic.z α) true len, .kv hd]
  lt := lt
  n := H0.length
  sz := len
  Lh := RowH b len H0
  low h := h.le
  size h := h.size
  big := hlen
  oneL := rfl
  oneS := rfl
  nilL := rfl
  nilS := rfl
  same h h1 h2 := ⟨h.size, Nat.le_trans h.le h1, (h2 b hb).trans h.row, fun x hx hn => (h2 x hx).trans (h.keep x hx hn)⟩
  lessW {H A} h i j hi hj := by
    have hcl : c < H0.length := (List.getElem?_eq_some_iff.1 hc).1
    exact hl H A h.row ((h.keep c hcl hbc).trans hc) h.size i j hi hj
  swapW {H A} h i j hi hj := by
    have hbl : b < H.length := (List.getElem?_eq_some_iff.1 h.row).1
    have hg : getCells H b (len * Pic.z α) = some (rows A.toList) := by
      unfold getCells
      rw [h.row]
      simp [rows_len, h.size]
    have hA := h.size
    refine ⟨H.set b (.cells (rows (swp A i j).toList)), ?_, ⟨by rw [size_swp]; exact h.size, by rw [List.length_set]; exact h.le, List.getElem?_set_self hbl, fun x hx hn => by rw [List.getElem?_set_ne (Ne.symm hn)]; exact h.keep x hx hn⟩, ⟨by rw [List.length_set]; exact Nat.le_refl _, fun x h1 h2 => List.getElem?_set_ne (by omega)⟩⟩
    show base (2 * fW) none [nV i, nV j, .hsl b (len * Pic.z α) 0 (Pic.z α) true len, .kv hd] H = _
    rw [hs]
    simp only [swapFn]
    rw [if_pos ⟨trivial, trivial, S.z0, trivial, by omega, by omega, by omega, by omega⟩, hg, Option.bind_some, rows_flat S, scal_sV, Option.bind_some, if_pos (flat_plain S _)]
    simp only [Int.toNat_natCast]
    rw [swapVs_flat S.hz S.z0 A (by omega) (by omega), ← rows_flat S]

theorem sort_rows {P : Program} {base : Env} {T : Nat → Option AFn} {fI fH fB fC fR fP fE fT fS fD fO fM fA fX fN : Nat} (t : SortT T fI fH fB fC fR fP fE fT fS fD fO fM fA fX fN) (kn : ∀ (h : Heap) (l : Nat), l < 4611686018427387904 → base (2 * fN) none [nV l] h = some (uV (1 <<< bitsLen l), h))
    (S : Scal α) {gid fW b c tid : Nat} {hd : Value} {lt : α → α → Bool} {H0 : Heap} {xs : List α} (hs : base (2 * fW) = swapFn (Pic.z α) hd)
    (hl : ∀ (H : Heap) (A : Array α), H[b]? = some (.cells (rows A.toList)) → H[c]? = some (.cells [.hsl b (xs.length * Pic.z α) 0 (Pic.z α) true xs.length]) → A.size = xs.length → ∀ i j : Nat, i < xs.length → j < xs.length → base (2 * gid) none [nV i, nV j, .ptr c 1 0] H = some (bV (lt A[i]! A[j]!), H))
    (hb : H0[b]? = some (.cells (rows xs))) (hbc : c ≠ b) (hc : H0[c]? = some (.cells [.hsl b (xs.length * Pic.z α) 0 (Pic.z α) true xs.length])) (hlen : xs.length < 4611686018427387904) :
    ∃ h', sliceFn P base T (c_sort_pdqsort_func fI fH fB fC fR fP fE fT fS) tid (Pic.z α) fW hd none [.ifc tid (.hsl b (xs.length * Pic.z α) 0 (Pic.z α) true xs.length), .clo gid [.ptr c 1 0]] H0 = some (.tup [], h') ∧
      h'[b]? = some (.cells (rows (sortL lt xs))) ∧ Keep [b] H0 h' := by
  simp only [sliceFn]
  rw [if_pos ⟨trivial, trivial⟩]
  unfold sortL
  by_cases h1 : xs.length ≤ 1
  · rw [if_pos h1, if_pos h1]
    exact ⟨H0, rfl, hb, Nat.le_refl _, fun _ _ _ => rfl⟩
  · rw [if_neg h1, if_neg h1, if_pos hlen]
    have hbl : b < H0.length := (List.getElem?_eq_some_iff.1 hb).1
    have hlim : Lib.bitLen xs.length < 4611686018427387904 := Nat.lt_of_le_of_lt (Lib.bitLen_le xs.length 62 (by omega) (by omega)) (by omega)
    obtain ⟨h', e1, e2, e3⟩ := pdq_all (P := P) t (rowLS S gid fW b c xs.length hd lt H0 hs hl hbl hbc hc hlen) kn xs.length xs.length (Nat.le_refl _) (H := H0) (A := xs.toArray)
      (show RowH b xs.length H0 H0 xs.toArray from ⟨by simp, Nat.le_refl _, by simpa using hb, fun _ _ _ => rfl⟩) 0 xs.length (Lib.bitLen xs.length) (Nat.zero_le _) (Nat.le_refl _) (by omega) hlim
    have e2' : RowH b xs.length H0 h' (pdq lt xs.toArray 0 xs.length (Lib.bitLen xs.length) true true) := e2
    rw [envN_odd t.tS] at e1
    exact ⟨h', e1, e2'.row, e2'.le, fun x hx hn => e2'.keep x hx (by simpa using hn)⟩
end
end Go.AM

set_option linter.unusedVariables false
set_option linter.unusedSimpArgs false
namespace Go.AM
open Pic (enc dec dec_enc dec_sub)
open PicA (encA decA decA_encA decA_sub)

/-- A list behind a pointer. -/
structure PtrL (α : Type) where
  l : List α
def decPtrL {α : Type} [Pic α] : I → Option (PtrL α)
  | .ip [x] => (dec x).map PtrL.mk
  | _ => none
instance {α : Type} [Pic α] : Pic (PtrL α) where
  z := 1
  ag := false
  enc p := .ip [enc p.l]
  dec := decPtrL
  dec_enc x := by simp [decPtrL, dec_enc]
  len x := rfl
  pos := by decide
  one := .inr rfl
  row x := rfl
  dec_sub x a h := by
    unfold decPtrL at h
    split at h
    · obtain ⟨l, h1, rfl⟩ := Option.map_eq_some_iff.1 h
      exact .ip (.cons (dec_sub _ _ h1) .nil)
    · cases h

theorem encs_inj {α : Type} [Pic α] : ∀ {xs ys : List α}, xs.map enc = ys.map enc → xs = ys
  | [], [], _ => rfl
  | [], y :: ys, h => by cases h
  | x :: xs, [], h => by cases h
  | x :: xs, y :: ys, h => by
    simp only [List.map_cons, List.cons.injEq] at h
    have := congrArg (dec (α := α)) h.1
    rw [dec_enc, dec_enc] at this
    rw [Option.some.inj this, encs_inj h.2]
theorem hit_cons (a c : List Value) (cs : List (List Value)) : hit a (c :: cs) = if eqL a c = true then some 0 else (hit a cs).map (· + 1) := rfl
theorem mapR_pic {h : Heap} {ks vs : List I} : mapR h (.i (.im ks vs)) = some (0, ks, vs.map .i) := rfl
theorem gc_app {h l : Heap} {b g : Nat} {cs : List V} (hc : getCells h b g = some cs) : getCells (h ++ l) b g = some cs := by rw [gc_left (gc_lt hc)]; exact hc
/-- A list in a block of its own behind T, or no list yet. -/
def OwnV {α : Type} [Pic α] (z T : Nat) (h : Heap) (v : V) (xs : List α) : Prop := (xs = [] ∧ v = .i (.s (.slice none 0 0))) ∨ ∃ B, T < B ∧ v = .hsl B (xs.length * z) 0 z true xs.length ∧ getCells h B (xs.length * z) = some (rows xs)

theorem OwnV.app {α : Type} [Pic α] {z T : Nat} {h : Heap} {v : V} {xs : List α} (o : OwnV z T h v xs) (l : Heap) : OwnV z T (h ++ l) v xs := by
  rcases o with ⟨h1, h2⟩ | ⟨B, h1, h2, h3⟩
  · exact .inl ⟨h1, h2⟩
  · exact .inr ⟨B, h1, h2, gc_app h3⟩
theorem at_setT {h l : Heap} {T x : Nat} {s : Slot} (hT : T < h.length) (hx : x < T) : (h.set T s ++ l)[x]? = h[x]? := by
  rw [List.getElem?_append_left (by rw [List.length_set]; omega), List.getElem?_set_ne (by omega)]
theorem gc_setT {h l : Heap} {T g : Nat} {cs : List V} (hT : T < h.length) (hg : cs.length = g) : getCells (h.set T (.cells cs) ++ l) T g = some cs := by
  rw [gc_left (by rw [List.length_set]; exact hT), gc_set_eq hT, if_pos hg]
theorem snap_own {α : Type} [Pic α] [FlatC α] {z T n : Nat} {f : Bool} {h : Heap} {v : V} {xs : List α} (hz : z = Pic.z α) (ha : Pic.ag α = true) (o : OwnV z T h v xs) : ∃ x, snap (n + 2) f h v = some x ∧ (dec x : Option (List α)) = some xs := by
  rcases o with ⟨rfl, rfl⟩ | ⟨B, _, rfl, hg⟩
  · exact ⟨_, by simp [snap, flat], dec_nil⟩
  · by_cases h0 : xs.length = 0
    · have := List.eq_nil_of_length_eq_zero h0
      subst this
      exact ⟨.sl z [], by simp [snap_hsl], dec_sl0⟩
    · refine ⟨.sl z (xs.map enc), ?_, dec_sl1 hz⟩
      rw [snap_hsl, if_neg h0, hg, Option.bind_some, List.drop_zero, take_rows (by rw [rows_len, hz]; exact Nat.le_refl _), snapA_rowsF, Option.bind_some, mkRows_eq hz ha.symm rfl]

theorem snap_mp {n : Nat} {f : Bool} {h : Heap} {b : Nat} {ks : List I} {vs : List V} (hb : h[b]? = some (.map ks vs)) : snap (n + 1) f h (.mp b) = (vs.mapM (snap n f h)).map (I.im ks) := by
  show (match h[b]? with | some (.map ks vs) => (vs.mapM (snap n f h)).map (I.im ks) | _ => none) = _
  rw [hb]

theorem app_rowsL {α : Type} [Pic α] {z y B : Nat} {h : Heap} {xs ys : List α} (hz : z = Pic.z α) (hg : getCells h B (xs.length * z) = some (rows xs)) (hl : (xs.length + ys.length) * y ≤ 140737488355328) :
    ∃ h', stepAppend none z true y h (rows ys) ys.length (.hsl B (xs.length * z) 0 z true xs.length) = some (.hsl B ((xs ++ ys).length * z) 0 z true (xs ++ ys).length, h') ∧ getCells h' B ((xs ++ ys).length * z) = some (rows (xs ++ ys)) ∧ (∀ b, b ≠ B → h'[b]? = h[b]?) ∧ h'.length = h.length := by
  have lB := gc_lt hg
  rw [app_hsl, if_pos ⟨.inl rfl, rfl⟩, hg, Option.bind_some]
  by_cases h0 : ys.length = 0
  · rw [if_pos h0]
    obtain rfl := List.eq_nil_of_length_eq_zero h0
    rw [List.append_nil]
    exact ⟨_, rfl, hg, fun b _ => rfl, rfl⟩
  · rw [if_neg h0, if_pos hl, if_pos rfl]
    refine ⟨_, by rw [List.length_append, Nat.add_mul], ?_, fun b hb => List.getElem?_set_ne (Ne.symm hb), by simp⟩
    rw [gc_set_eq lB, rows_append, if_pos (by rw [List.length_append, rows_len, rows_len, List.length_append, Nat.add_mul, hz])]


/-- A stamp that may stand. -/
def stOK (s : TStamp) : Bool := decide (1 ≤ s.time ∧ s.time ≤ 1000000000000 ∧ 0 ≤ s.actor ∧ s.actor < 16)
def ltS (a b : TStamp) : Bool := decide (a.time < b.time ∨ (a.time = b.time ∧ a.actor < b.actor))
/-- Before another by key. -/
abbrev ltK {α : Type} (key : α → TStamp) (x y : α) : Bool := ltS (key x) (key y)
/-- Of one key the first; none: two with one key differ. -/
def dedK {α : Type} [DecidableEq α] (key : α → TStamp) : Option α → List α → List α → Option (List α)
  | _, [], acc => some acc
  | p, o :: l, acc => match p with
    | some q => if key q = key o then (if q = o then dedK key (some o) l acc else none) else dedK key (some o) l (acc ++ [o])
    | none => dedK key (some o) l (acc ++ [o])
theorem ltK_swo {α : Type} (key : α → TStamp) : Go.Sort.SWO (ltK key) where
  irrefl x := by unfold ltK ltS; rw [decide_eq_false_iff_not]; omega
  trans x y z h1 h2 := by
    unfold ltK ltS at *
    rw [decide_eq_true_eq] at *
    omega
  ntrans x y z h1 h2 := by
    unfold ltK ltS at *
    rw [decide_eq_false_iff_not] at *
    omega
theorem dedK_len {α : Type} [DecidableEq α] {key : α → TStamp} : ∀ (S : List α) (p : Option α) (acc l : List α), dedK key p S acc = some l → l.length ≤ acc.length + S.length
  | [], p, acc, l, h => by
    cases h
    simp
  | o :: S, p, acc, l, h => by
    have ih := dedK_len (key := key) S
    cases p with
    | none =>
      have := ih _ _ _ h
      simp only [List.length_append, List.length_cons, List.length_nil] at this ⊢
      omega
    | some q =>
      simp only [dedK] at h
      split at h
      · split at h
        · have := ih _ _ _ h
          simp only [List.length_cons]
          omega
        · cases h
      · have := ih _ _ _ h
        simp only [List.length_append, List.length_cons, List.length_nil] at this ⊢
        omega
end Go.AM

set_option linter.unusedVariables false
set_option linter.unusedSimpArgs false
set_option maxRecDepth 20000
namespace Go.AM
open Pic (enc dec dec_enc dec_sub)
open PicA (encA decA decA_encA decA_sub)
open Go.Sort (bitsLen)
open Go.RowKit (Below)

theorem gc_cells {h : Heap} {b g : Nat} {cs : List V} (hg : getCells h b g = some cs) (h0 : 0 < g) : h[b]? = some (.cells cs) := (cellsAt_some (getCells_real hg h0)).1

def kSlice {α : Type} [Pic α] [Inhabited α] (tid gid : Nat) (lt : α → α → Bool) (F : Fun) : Prop := ∀ (xs : List α) (H : Heap) (b c : Nat), xs.length < 4611686018427387904 → getCells H b (xs.length * Pic.z α) = some (rows xs) → c ≠ b → getCells H c 1 = some [.hsl b (xs.length * Pic.z α) 0 (Pic.z α) true xs.length] →
  ∃ h', F none [.ifc tid (.hsl b (xs.length * Pic.z α) 0 (Pic.z α) true xs.length), .clo gid [.ptr c 1 0]] H = some (.tup [], h') ∧ getCells h' b (xs.length * Pic.z α) = some (rows (sortL lt xs)) ∧ Keep [b] H h'

theorem kslice_holds {α : Type} [Pic α] [FlatC α] [Inhabited α] {P : Program} {base : Env} {T : Nat → Option AFn} {fI fH fB fC fR fP fE fT fS fD fO fM fA fX fN fW : Nat} {hd : Value} (t : SortT T fI fH fB fC fR fP fE fT fS fD fO fM fA fX fN)
    (kn : ∀ (h : Heap) (l : Nat), l < 4611686018427387904 → base (2 * fN) none [nV l] h = some (uV (1 <<< bitsLen l), h)) (S : Scal α) (ag : Pic.ag α = true) (hs : base (2 * fW) = swapFn (Pic.z α) hd) {tid gid : Nat} {lt : α → α → Bool} (hlt : Go.Sort.SWO lt)
    {p : Int → Int → PtrL α → Option Bool} (hless : base (2 * gid) = pureFn true (FA fun a : Int × Int × PtrL α => p a.1 a.2.1 a.2.2))
    (hp : ∀ (l : List α) (i j : Int) (x y : α), get? l i = some x → get? l j = some y → p i j ⟨l⟩ = some (lt x y)) : kSlice tid gid lt (sliceFn P base T (c_sort_pdqsort_func fI fH fB fC fR fP fE fT fS) tid (Pic.z α) fW hd) := by
  intro xs H b c hlen hb hbc hc
  have hz0 := S.z0
  have hc' := gc_cells hc (by omega)
  by_cases h0 : xs.length = 0
  · obtain rfl := List.eq_nil_of_length_eq_zero h0
    exact ⟨H, by simp [sliceFn], hb, keep_refl⟩
  · have hb' := gc_cells hb (Nat.mul_pos (by omega) hz0)
    obtain ⟨h', e1, e2, e3⟩ := sort_rows (P := P) t kn S (gid := gid) (tid := tid) (lt := lt) hs (b := b) (c := c) (H0 := H) (xs := xs) (fun H A hA hC hsz i j hi hj => by
      have hA' : A.toList.length = xs.length := by simpa using hsz
      have hgA : getCells H b (xs.length * Pic.z α) = some (rows A.toList) := by
        unfold getCells
        rw [hA]
        simp only
        rw [if_pos (by rw [rows_len, hA'])]
      have hgC : getCells H c 1 = some [.hsl b (xs.length * Pic.z α) 0 (Pic.z α) true xs.length] := by
        unfold getCells
        rw [hC]
        rfl
      have g1 : get? A.toList (i : Int) = some A[i]! := by
        rw [get_nat, Array.getElem?_toList, Array.getElem?_eq_getElem (by omega), getElem!_pos A i (by omega)]
      have g2 : get? A.toList (j : Int) = some A[j]! := by
        rw [get_nat, Array.getElem?_toList, Array.getElem?_eq_getElem (by omega), getElem!_pos A j (by omega)]
      have hp := hp A.toList i j _ _ g1 g2
      rw [hless]
      have sn : snapA 9 false H [nV i, nV j, .ptr c 1 0] = some [.s (.int .i64 (i : Int)), .s (.int .i64 (j : Int)), .ip [.sl (Pic.z α) (A.toList.map enc)]] := by
        have s1 : snap 8 false H (.hsl b (xs.length * Pic.z α) 0 (Pic.z α) true xs.length) = some (.sl (Pic.z α) (A.toList.map enc)) := by
          rw [snap_hsl, if_neg h0, hgA, Option.bind_some, List.drop_zero, take_rows (by rw [rows_len, hA']; exact Nat.le_refl _), snapA_rowsF, Option.bind_some, mkRows_eq (α := α) rfl ag.symm hA'.symm]
        have s2 : snap 9 false H (.ptr c 1 0) = some (.ip [.sl (Pic.z α) (A.toList.map enc)]) := by
          rw [snap_ptr, hgC, Option.bind_some, if_pos (by simp), List.drop_zero, snapA_cons, s1, snapA_nil]
          rfl
        rw [snapA_cons, snapA_cons, snapA_cons, s2, snapA_nil]
        rfl
      rw [pure_at, if_pos rfl, sn, Option.bind_some, FA_def]
      have hdec : (decA [I.s (.int .i64 (i : Int)), I.s (.int .i64 (j : Int)), I.ip [I.sl (Pic.z α) (A.toList.map enc)]] : Option (Int × Int × PtrL α)) = some ((i : Int), (j : Int), ⟨A.toList⟩) := by
        exact decA_encA ((i : Int), (j : Int), (⟨A.toList⟩ : PtrL α))
      rw [hdec, Option.bind_some]
      simp only [hp]
      rfl) hb' hbc hc' hlen
    refine ⟨h', e1, ?_, e3⟩
    unfold getCells
    rw [e2]
    simp only
    rw [if_pos (by rw [rows_len, sortL_len hlt])]

/-- Where the sort's functions start from. -/
noncomputable def sortBase (fW z : Nat) (hd : Value) (pu : PEnv) : Env := fun c slot args h => if c = 2 * fW then swapFn z hd slot args h else mkEnv pu [] c slot args h
theorem sortBase_swap {fW z : Nat} {hd : Value} {pu : PEnv} : sortBase fW z hd pu (2 * fW) = swapFn z hd := by
  funext slot args h
  unfold sortBase
  rw [if_pos rfl]
theorem sortBase_at {fW z f : Nat} {hd : Value} {pu : PEnv} (hf : f ≠ fW) : sortBase fW z hd pu (2 * f) = mkEnv pu [] (2 * f) := by
  funext slot args h
  unfold sortBase
  rw [if_neg (by omega)]
theorem sortBase_ok {P : Program} {fW z : Nat} {hd : Value} {pu : PEnv} (hs : FunOK P fW (swapFn z hd)) (hp : ∀ p, p ∈ pu → PureOK P p.1 p.2.1 p.2.2) : EnvOK P (sortBase fW z hd pu) := by
  intro c slot args H v H' h
  unfold sortBase at h
  split at h
  · rename_i hc
    subst hc
    rw [Nat.mul_div_cancel_left fW (by decide)]
    exact hs slot args H v H' h
  · exact mkEnv_ok hp (fun p hp => by cases hp) c slot args H v H' h

/-- nextPowerOfTwo. -/
def nextF : List I → Option I
  | [.s (.int .i64 n)] => if 0 ≤ n ∧ n < 4611686018427387904 then some (.s (.int .u64 ((1 <<< bitsLen n.toNat : Nat) : Int))) else none
  | _ => none
theorem next_ok {P : Program} {f : FuncId} (hcall : callable P f = true) (h : ∀ (n : Nat), n < 4611686018427387904 → ∀ w, Calls P f #[.int .i64 n] w fun e w' => e = .returned (.int .u64 ((1 <<< bitsLen n : Nat) : Int)) ∧ w' = w) : PureOK P f true nextF := by
  refine ⟨hcall, ?_⟩
  intro args r hr Y w xs hY hl
  unfold nextF at hr
  split at hr
  case h_2 => cases hr
  rename_i n
  split at hr
  case isFalse => cases hr
  rename_i hn
  cases hr
  obtain ⟨n, rfl⟩ : ∃ m : Nat, n = (m : Int) := ⟨n.toNat, by omega⟩
  obtain rfl : xs = #[.int .i64 (n : Int)] := by
    apply Array.ext'
    generalize xs.toList = l at hl
    cases hl with
    | cons a b =>
      cases a
      cases b
      rfl
  refine (h n (by omega) w).mono ?_
  rintro e w' ⟨rfl, rfl⟩
  refine ⟨_, rfl, Below.refl _ _, .s rfl⟩
theorem nextF_at {l : Nat} (hl : l < 4611686018427387904) : nextF [.s (.int .i64 (l : Int))] = some (.s (.int .u64 ((1 <<< bitsLen l : Nat) : Int))) := by
  have e : nextF [.s (.int .i64 (l : Int))] = if 0 ≤ (l : Int) ∧ (l : Int) < 4611686018427387904 then some (.s (.int .u64 ((1 <<< bitsLen (l : Int).toNat : Nat) : Int))) else none := rfl
  rw [e, if_pos (by omega), Int.toNat_natCast]
theorem next_at {l : Nat} (hl : l < 4611686018427387904) (h : Heap) : pureFn true nextF none [nV l] h = some (uV (1 <<< bitsLen l), h) := by
  have sn : snapA 9 false h [nV l] = some [.s (.int .i64 (l : Int))] := by
    rw [snapA_cons, snapA_nil, snap_s]
    rfl
  rw [pure_at, if_pos rfl, sn, Option.bind_some, nextF_at hl, Option.map_some, ofI_s]
end Go.AM

set_option linter.unusedVariables false
set_option linter.unusedSimpArgs false
namespace Go.AM
open Pic (enc dec dec_enc dec_sub)
open PicA (encA decA decA_encA decA_sub)

/-! ### Maps whose keys are stamps -/
def skI (s : TStamp) : I := .agg [.s (.int .i64 s.time), .s (.int .i64 s.actor)]
def skL (s : TStamp) : List Value := [.int .i64 s.time, .int .i64 s.actor]
def idxK : List TStamp → TStamp → Option Nat
  | [], _ => none
  | c :: cs, k => if c = k then some 0 else (idxK cs k).map (· + 1)
def insK (ks : List TStamp) (k : TStamp) : List TStamp := match idxK ks k with
  | some _ => ks
  | none => ks ++ [k]
def insV {α : Type} (ks : List TStamp) (vs : List α) (k : TStamp) (x : α) : List α := match idxK ks k with
  | some j => vs.set j x
  | none => vs ++ [x]

theorem sk_keys (ks : List TStamp) : keysI true [.int .i64, .int .i64] (ks.map skI) = some (ks.map skL) := by
  have h : ∀ l : List TStamp, (l.map skI).mapM (keyI true) = some (l.map skL) := by
    intro l
    induction l with
    | nil => rfl
    | cons n l ih =>
      rw [List.map_cons, List.mapM_cons, ih]
      rfl
  unfold keysI
  rw [h]
  have h2 : (ks.map skL).all (fitsL [.int .i64, .int .i64]) = true := by
    rw [List.all_eq_true]
    intro x hx
    obtain ⟨n, _, rfl⟩ := List.mem_map.1 hx
    rfl
  exact if_pos h2
theorem eq_sk {a b : TStamp} : eqL (skL a) (skL b) = decide (b = a) := by
  cases a with
  | mk a1 a2 =>
    cases b with
    | mk b1 b2 =>
      simp only [skL, eqL, eqV, Bool.and_true, TStamp.mk.injEq]
      rw [← Bool.decide_and]
      apply decide_eq_decide.2
      omega
theorem hit_sk : ∀ (ks : List TStamp) (k : TStamp), hit (skL k) (ks.map skL) = idxK ks k
  | [], k => rfl
  | c :: cs, k => by
    rw [List.map_cons, idxK, ← hit_sk cs k]
    show (if eqL (skL k) (skL c) = true then _ else _) = _
    rw [eq_sk]
    simp only [decide_eq_true_eq]
theorem set_sk {ks : List TStamp} {vs : List V} {k : TStamp} {x : V} : setM true (skL k) x (ks.map skI) vs (idxK ks k) = .map ((insK ks k).map skI) (insV ks vs k x) := by
  unfold insK insV setM
  cases idxK ks k with
  | some j => rfl
  | none => simp [keyP, skI, skL]
theorem keyV_v {a b : Int} : keyV true (.agg [.i (iN a), .i (iN b)]) = some (skL ⟨a, b⟩) := rfl
theorem keyV_s {a b : Int} : keyV true (.agg [.i (.s (.int .i64 a)), .i (.s (.int .i64 b))]) = some (skL ⟨a, b⟩) := rfl
theorem keyV_i {a b : Int} : keyV true (.i (.agg [.s (.int .i64 a), .s (.int .i64 b)])) = some (skL ⟨a, b⟩) := rfl
theorem keyV_iN {a b : Int} : keyV true (.i (.agg [iN a, iN b])) = some (skL ⟨a, b⟩) := rfl
theorem fits_sk {s : TStamp} : fitsL [.int .i64, .int .i64] (skL s) = true := rfl
theorem idxK_lt : ∀ {ks : List TStamp} {k : TStamp} {j : Nat}, idxK ks k = some j → ks[j]? = some k
  | [], k, j, h => by cases h
  | c :: cs, k, j, h => by
    rw [idxK] at h
    split at h
    · cases h; rename_i e; rw [e]; rfl
    · obtain ⟨i, h1, rfl⟩ := Option.map_eq_some_iff.1 h
      rw [List.getElem?_cons_succ]
      exact idxK_lt h1
theorem idxK_none : ∀ {ks : List TStamp} {k : TStamp}, idxK ks k = none → k ∉ ks
  | [], k, _ => by simp
  | c :: cs, k, h => by
    rw [idxK] at h
    split at h
    · cases h
    · rename_i e
      have := idxK_none (Option.map_eq_none_iff.1 h)
      rw [List.mem_cons]
      rintro (e2 | h2)
      · exact e e2.symm
      · exact this h2
theorem idxK_mem {ks : List TStamp} {k : TStamp} (h : k ∈ ks) : ∃ j, idxK ks k = some j := by
  cases e : idxK ks k with
  | some j => exact ⟨j, rfl⟩
  | none => exact absurd h (idxK_none e)

/-! ### What a list is -/
structure TList where
  ops : List TLOp
  order : List TLOp
  gone : List TStamp
  place : List (TStamp × Int)
def goneI (g : List TStamp) : List I := g.map fun _ => .s (.bool true)
def placeI (p : List (TStamp × Int)) : List I := p.map fun q => .s (.int .i64 q.2)
def listI (t : TList) : I := .ip [enc t.ops, enc t.order, .im (t.gone.map skI) (goneI t.gone), .im ((t.place.map Prod.fst).map skI) (placeI t.place)]
def encLi : Option TList → I
  | none => .s (.pointer none)
  | some t => listI t
open Classical in
noncomputable def decMaps (g1 g2 p1 p2 : List I) : Option (List TStamp × List (TStamp × Int)) := if h : ∃ q : List TStamp × List (TStamp × Int), g1 = q.1.map skI ∧ g2 = goneI q.1 ∧ p1 = (q.2.map Prod.fst).map skI ∧ p2 = placeI q.2 then some h.choose else none
theorem skI_inj : ∀ {xs ys : List TStamp}, xs.map skI = ys.map skI → xs = ys
  | [], [], _ => rfl
  | [], y :: ys, h => by cases h
  | x :: xs, [], h => by cases h
  | ⟨a, b⟩ :: xs, ⟨c, d⟩ :: ys, h => by
    simp only [List.map_cons, List.cons.injEq, skI, I.agg.injEq, I.s.injEq, Value.int.injEq, true_and, and_true] at h
    rw [h.1.1, h.1.2, skI_inj h.2]
theorem placeI_inj : ∀ {xs ys : List (TStamp × Int)}, xs.map Prod.fst = ys.map Prod.fst → placeI xs = placeI ys → xs = ys
  | [], [], _, _ => rfl
  | [], y :: ys, h, _ => by cases h
  | x :: xs, [], h, _ => by cases h
  | ⟨a, b⟩ :: xs, ⟨c, d⟩ :: ys, h, h2 => by
    simp only [List.map_cons, List.cons.injEq, placeI, I.s.injEq, Value.int.injEq, true_and] at h h2
    rw [h.1, h2.1, placeI_inj h.2 h2.2]
theorem decMaps_enc (g : List TStamp) (p : List (TStamp × Int)) : decMaps (g.map skI) (goneI g) ((p.map Prod.fst).map skI) (placeI p) = some (g, p) := by
  have hx : ∃ q : List TStamp × List (TStamp × Int), g.map skI = q.1.map skI ∧ goneI g = goneI q.1 ∧ (p.map Prod.fst).map skI = (q.2.map Prod.fst).map skI ∧ placeI p = placeI q.2 := ⟨(g, p), rfl, rfl, rfl, rfl⟩
  unfold decMaps
  rw [dif_pos hx]
  obtain ⟨h1, h2, h3, h4⟩ := hx.choose_spec
  exact congrArg some (Prod.ext (skI_inj h1).symm (placeI_inj (skI_inj h3) h4).symm)
theorem decMaps_some {g1 g2 p1 p2 : List I} {g : List TStamp} {p : List (TStamp × Int)} (h : decMaps g1 g2 p1 p2 = some (g, p)) : g1 = g.map skI ∧ g2 = goneI g ∧ p1 = (p.map Prod.fst).map skI ∧ p2 = placeI p := by
  unfold decMaps at h
  split at h
  · rename_i hx
    have := hx.choose_spec
    rw [Option.some.inj h] at this
    exact this
  · cases h
noncomputable def decLi : I → Option (Option TList)
  | .s (.pointer none) => some none
  | .ip [x, y, .im g1 g2, .im p1 p2] => (decMaps g1 g2 p1 p2).bind fun q => (dec x).bind fun o => (dec y).map fun s => some ⟨o, s, q.1, q.2⟩
  | _ => none
noncomputable instance : Pic (Option TList) where
  z := 1
  ag := false
  enc := encLi
  dec := decLi
  dec_enc x := by
    cases x with
    | none => rfl
    | some t =>
      show decLi (listI t) = _
      simp only [listI, decLi]
      rw [decMaps_enc]
      simp [dec_enc]
  len x := by cases x <;> rfl
  pos := by decide
  one := .inr rfl
  row x := by cases x <;> rfl
  dec_sub x a h := by
    unfold decLi at h
    split at h
    · cases h; exact .refl _
    · obtain ⟨q, h1, h⟩ := Option.bind_eq_some_iff.1 h
      obtain ⟨n, h2, h⟩ := Option.bind_eq_some_iff.1 h
      obtain ⟨s, h3, rfl⟩ := Option.map_eq_some_iff.1 h
      obtain ⟨rfl, rfl, rfl, rfl⟩ := decMaps_some h1
      exact .ip (.cons (dec_sub _ _ h2) (.cons (dec_sub _ _ h3) (.cons (.refl _) (.cons (.refl _) .nil))))
    · cases h
end Go.AM

set_option linter.unusedVariables false
set_option linter.unusedSimpArgs false
namespace Go.AM

instance : Inhabited TLOp := ⟨⟨0, 0, ⟨0, 0⟩, ⟨0, 0⟩⟩⟩
def chOK (c : Int) : Bool := decide (0 ≤ c ∧ c ≤ 1114111 ∧ (c < 55296 ∨ 57343 < c))
def lopK (o : TLOp) : Bool := stOK o.id && (if o.kind = 1 then chOK o.char && ((stOK o.at_ && ltS o.at_ o.id) || decide (o.at_ = ⟨0, 0⟩)) else if o.kind = 2 then decide (o.char = 0) && (stOK o.at_ && ltS o.at_ o.id) else false)
/-- Who may have followers. -/
def initK : List TLOp → List TStamp → List (List TLOp) → List TStamp × List (List TLOp)
  | [], ks, ls => (ks, ls)
  | o :: l, ks, ls => if o.kind = 1 then initK l (insK ks o.id) (insV ks ls o.id []) else initK l ks ls
/-- Who follows whom, and who is gone; none: one stands behind nobody. -/
def fillK (ks : List TStamp) : List TLOp → List (List TLOp) → List TStamp → Option (List (List TLOp) × List TStamp)
  | [], ls, g => some (ls, g)
  | o :: l, ls, g => match idxK ks o.at_ with
    | none => none
    | some j => if o.kind = 1 then fillK ks l (ls.set j (ls.getD j [] ++ [o])) g else fillK ks l ls (insK g o.at_)
def kidsK (ks : List TStamp) (ls : List (List TLOp)) (k : TStamp) : List TLOp := match idxK ks k with
  | some j => ls.getD j []
  | none => []
def setP (p : List (TStamp × Int)) (k : TStamp) (n : Int) : List (TStamp × Int) := match idxK (p.map Prod.fst) k with
  | some j => p.set j (k, n)
  | none => p ++ [(k, n)]
/-- The walk with a stack; none: too far. -/
def walkK (ks : List TStamp) (ls : List (List TLOp)) : Nat → List TLOp → List TLOp → List (TStamp × Int) → Option (List TLOp × List (TStamp × Int))
  | 0, _, _, _ => none
  | n + 1, st, ord, pl => match st.getLast? with
    | none => some (ord, pl)
    | some o => if st.length + (kidsK ks ls o.id).length ≤ 1000000 ∧ ord.length ≤ 1000000 then walkK ks ls n (st.dropLast ++ kidsK ks ls o.id) (ord ++ [o]) (setP pl o.id (ord.length : Int)) else none
noncomputable def listM (x0 : List TLOp) : Option (T2 (Option TList) Int) :=
  if 2048 < x0.length then some ⟨none, 2⟩ else if x0.all lopK = false then some ⟨none, 1⟩ else
    match dedK TLOp.id none (sortL (ltK TLOp.id) x0) [] with
    | none => some ⟨none, 16⟩
    | some l => match fillK (initK l [⟨0, 0⟩] [[]]).1 l (initK l [⟨0, 0⟩] [[]]).2 [] with
      | none => some ⟨none, 5⟩
      | some (ls, g) => (fixP fun n => walkK (initK l [⟨0, 0⟩] [[]]).1 ls n (kidsK (initK l [⟨0, 0⟩] [[]]).1 ls ⟨0, 0⟩) [] []).map fun q => ⟨some ⟨l, q.1, g, q.2⟩, 0⟩
end Go.AM

set_option linter.unusedVariables false
set_option linter.unusedSimpArgs false
set_option maxRecDepth 20000
namespace Go.AM
open Pic (enc dec dec_enc dec_sub)
open PicA (encA decA decA_encA decA_sub)
noncomputable def p_spec_StampOK (x0 : TStamp) : Option Bool :=
  if (decide (1 ≤ x0.time)) = true then
    if (decide (x0.time ≤ 1000000000000)) = true then
      if (decide (0 ≤ x0.actor)) = true then
        some (decide (x0.actor < 16))
      else
        some false
    else
      some false
  else
    some false
def c_spec_StampOK : AFn := ⟨21, (.seq (.ops [(qS 1 (.box (.tmp 0))), (qS 2 (.mv (.const (.bool false))))]) (.seq (.ops [(qS 3 (.fieldA 0 (.tmp 1))), (qS 4 (.load 1 false (.tmp 3))), (qS 5 (.pu (.n (.ar .geq)) [(.tmp 4), (ic 1)])), (qS 6 (.mv (.tmp 5))), ⟨(.some 7), (.fieldA 0 (.tmp 1)), (.some (6, true)), [], .none⟩, ⟨(.some 8), (.load 1 false (.tmp 7)), (.some (6, true)), [], .none⟩, ⟨(.some 9), (.pu (.n (.ar .leq)) [(.tmp 8), (ic 1000000000000)]), (.some (6, true)), [], .none⟩, (qS 10 (.pick (.tmp 6) (.tmp 9) (.const (.bool false)))), (qS 11 (.mv (.tmp 10))), ⟨(.some 12), (.fieldA 1 (.tmp 1)), (.some (11, true)), [], .none⟩, ⟨(.some 13), (.load 1 false (.tmp 12)), (.some (11, true)), [], .none⟩, ⟨(.some 14), (.pu (.n (.ar .geq)) [(.tmp 13), (ic 0)]), (.some (11, true)), [], .none⟩, (qS 15 (.pick (.tmp 11) (.tmp 14) (.const (.bool false)))), (qS 16 (.mv (.tmp 15))), ⟨(.some 17), (.fieldA 1 (.tmp 1)), (.some (16, true)), [], .none⟩, ⟨(.some 18), (.load 1 false (.tmp 17)), (.some (16, true)), [], .none⟩, ⟨(.some 19), (.pu (.n (.ar .lss)) [(.tmp 18), (ic 16)]), (.some (16, true)), [], .none⟩, (qS 20 (.pick (.tmp 16) (.tmp 19) (.const (.bool false)))), (qS 2 (.mv (.tmp 20)))]) .ret)), [(.tmp 2)]⟩
set_option maxHeartbeats 10000000 in
theorem d_spec_StampOK {P : Program} {env : Env}  (x0 : TStamp) {b : Bool} (hp : p_spec_StampOK x0 = some b) : R P env (c_spec_StampOK) ((encA (x0)).map ofI) [] (Tells true b) := by
  refine R_of (by simp [c_spec_StampOK, encA]) ?_
  unfold c_spec_StampOK
  unfold p_spec_StampOK at hp
  by_cases hb0 : (decide (1 ≤ x0.time)) = true
  · rw [if_t hb0] at hp
    by_cases hb1 : (decide (x0.time ≤ 1000000000000)) = true
    · rw [if_t hb1] at hp
      by_cases hb2 : (decide (0 ≤ x0.actor)) = true
      · rw [if_t hb2] at hp
        have hp := Option.some.inj hp
        subst hp
        simp (maxSteps := 2000000) (disch := first|omega|(simp only[ls];first|done|omega)) only [hb0, hb1, hb2, gm]
      · replace hb2 := eq_false_of_ne_true hb2
        rw [if_f hb2] at hp
        have hp := Option.some.inj hp
        subst hp
        simp (maxSteps := 2000000) (disch := first|omega|(simp only[ls];first|done|omega)) only [hb0, hb1, hb2, gm]
    · replace hb1 := eq_false_of_ne_true hb1
      rw [if_f hb1] at hp
      have hp := Option.some.inj hp
      subst hp
      simp (maxSteps := 2000000) (disch := first|omega|(simp only[ls];first|done|omega)) only [hb0, hb1, gm]
  · replace hb0 := eq_false_of_ne_true hb0
    rw [if_f hb0] at hp
    have hp := Option.some.inj hp
    subst hp
    simp (maxSteps := 2000000) (disch := first|omega|(simp only[ls];first|done|omega)) only [hb0, gm]

noncomputable def p_spec_StampLess (x0 : TStamp) (x1 : TStamp) : Option Bool :=
  if (decide (x0.time < x1.time)) = true then
    some true
  else
    if (decide (x0.time = x1.time)) = true then
      some (decide (x0.actor < x1.actor))
    else
      some false
def c_spec_StampLess : AFn := ⟨24, (.seq (.ops [(qS 2 (.box (.tmp 0))), (qS 3 (.box (.tmp 1))), (qS 4 (.mv (.const (.bool false))))]) (.seq (.ops [(qS 5 (.fieldA 0 (.tmp 2))), (qS 6 (.load 1 false (.tmp 5))), (qS 7 (.fieldA 0 (.tmp 3))), (qS 8 (.load 1 false (.tmp 7))), (qS 9 (.pu (.n (.ar .lss)) [(.tmp 6), (.tmp 8)])), (qS 10 (.mv (.tmp 9))), ⟨(.some 11), (.fieldA 0 (.tmp 2)), (.some (10, false)), [], .none⟩, ⟨(.some 12), (.load 1 false (.tmp 11)), (.some (10, false)), [], .none⟩, ⟨(.some 13), (.fieldA 0 (.tmp 3)), (.some (10, false)), [], .none⟩, ⟨(.some 14), (.load 1 false (.tmp 13)), (.some (10, false)), [], .none⟩, ⟨(.some 15), (.pu (.n (.ar .eql)) [(.tmp 12), (.tmp 14)]), (.some (10, false)), [], .none⟩, ⟨(.some 16), (.mv (.tmp 15)), (.some (10, false)), [], .none⟩, ⟨(.some 17), (.fieldA 1 (.tmp 2)), (.some (16, true)), [], .none⟩, ⟨(.some 18), (.load 1 false (.tmp 17)), (.some (16, true)), [], .none⟩, ⟨(.some 19), (.fieldA 1 (.tmp 3)), (.some (16, true)), [], .none⟩, ⟨(.some 20), (.load 1 false (.tmp 19)), (.some (16, true)), [], .none⟩, ⟨(.some 21), (.pu (.n (.ar .lss)) [(.tmp 18), (.tmp 20)]), (.some (16, true)), [], .none⟩, ⟨(.some 22), (.pick (.tmp 16) (.tmp 21) (.const (.bool false))), (.some (10, false)), [], .none⟩, (qS 23 (.pick (.tmp 10) (.const (.bool true)) (.tmp 22))), (qS 4 (.mv (.tmp 23)))]) .ret)), [(.tmp 4)]⟩
set_option maxHeartbeats 10000000 in
theorem d_spec_StampLess {P : Program} {env : Env}  (x0 : TStamp) (x1 : TStamp) {b : Bool} (hp : p_spec_StampLess x0 x1 = some b) : R P env (c_spec_StampLess) ((encA (x0, x1)).map ofI) [] (Tells true b) := by
  refine R_of (by simp [c_spec_StampLess, encA]) ?_
  unfold c_spec_StampLess
  unfold p_spec_StampLess at hp
  by_cases hb0 : (decide (x0.time < x1.time)) = true
  · rw [if_t hb0] at hp
    have hp := Option.some.inj hp
    subst hp
    simp (maxSteps := 2000000) (disch := first|omega|(simp only[ls];first|done|omega)) only [hb0, gm]
  · replace hb0 := eq_false_of_ne_true hb0
    rw [if_f hb0] at hp
    by_cases hb1 : (decide (x0.time = x1.time)) = true
    · rw [if_t hb1] at hp
      have hp := Option.some.inj hp
      subst hp
      simp (maxSteps := 2000000) (disch := first|omega|(simp only[ls];first|done|omega)) only [hb0, hb1, gm]
    · replace hb1 := eq_false_of_ne_true hb1
      rw [if_f hb1] at hp
      have hp := Option.some.inj hp
      subst hp
      simp (maxSteps := 2000000) (disch := first|omega|(simp only[ls];first|done|omega)) only [hb0, hb1, gm]

noncomputable def p_spec_l02None (x0 : TStamp) : Option Bool :=
  if (decide (x0.time = 0)) = true then
    some (decide (x0.actor = 0))
  else
    some false
def c_spec_l02None : AFn := ⟨11, (.seq (.ops [(qS 1 (.box (.tmp 0))), (qS 2 (.mv (.const (.bool false))))]) (.seq (.ops [(qS 3 (.fieldA 0 (.tmp 1))), (qS 4 (.load 1 false (.tmp 3))), (qS 5 (.pu (.n (.ar .eql)) [(.tmp 4), (ic 0)])), (qS 6 (.mv (.tmp 5))), ⟨(.some 7), (.fieldA 1 (.tmp 1)), (.some (6, true)), [], .none⟩, ⟨(.some 8), (.load 1 false (.tmp 7)), (.some (6, true)), [], .none⟩, ⟨(.some 9), (.pu (.n (.ar .eql)) [(.tmp 8), (ic 0)]), (.some (6, true)), [], .none⟩, (qS 10 (.pick (.tmp 6) (.tmp 9) (.const (.bool false)))), (qS 2 (.mv (.tmp 10)))]) .ret)), [(.tmp 2)]⟩
set_option maxHeartbeats 10000000 in
theorem d_spec_l02None {P : Program} {env : Env}  (x0 : TStamp) {b : Bool} (hp : p_spec_l02None x0 = some b) : R P env (c_spec_l02None) ((encA (x0)).map ofI) [] (Tells true b) := by
  refine R_of (by simp [c_spec_l02None, encA]) ?_
  unfold c_spec_l02None
  unfold p_spec_l02None at hp
  by_cases hb0 : (decide (x0.time = 0)) = true
  · rw [if_t hb0] at hp
    have hp := Option.some.inj hp
    subst hp
    simp (maxSteps := 2000000) (disch := first|omega|(simp only[ls];first|done|omega)) only [hb0, gm]
  · replace hb0 := eq_false_of_ne_true hb0
    rw [if_f hb0] at hp
    have hp := Option.some.inj hp
    subst hp
    simp (maxSteps := 2000000) (disch := first|omega|(simp only[ls];first|done|omega)) only [hb0, gm]

noncomputable def p_spec_l04Char (x0 : Int) : Option Bool :=
  if (decide (0 ≤ x0)) = true then
    if (decide (x0 ≤ 1114111)) = true then
      if (decide (x0 < 55296)) = true then
        some true
      else
        some (decide (57343 < x0))
    else
      some false
  else
    some false
def c_spec_l04Char : AFn := ⟨17, (.seq (.ops [(qS 2 (.mv (.const (.bool false))))]) (.seq (.ops [(qS 3 (.mv (.tmp 0))), (qS 4 (.pu (.n (.ar .geq)) [(.tmp 3), (ic 0)])), (qS 5 (.mv (.tmp 4))), ⟨(.some 6), (.mv (.tmp 0)), (.some (5, true)), [], .none⟩, ⟨(.some 7), (.pu (.n (.ar .leq)) [(.tmp 6), (ic 1114111)]), (.some (5, true)), [], .none⟩, (qS 8 (.pick (.tmp 5) (.tmp 7) (.const (.bool false)))), (qS 9 (.mv (.tmp 8))), ⟨(.some 10), (.mv (.tmp 0)), (.some (9, true)), [], .none⟩, ⟨(.some 11), (.pu (.n (.ar .lss)) [(.tmp 10), (ic 55296)]), (.some (9, true)), [], .none⟩, ⟨(.some 12), (.mv (.tmp 11)), (.some (9, true)), [], .none⟩, ⟨(.some 13), (.mv (.tmp 0)), (.some (12, false)), [], .none⟩, ⟨(.some 14), (.pu (.n (.ar .gtr)) [(.tmp 13), (ic 57343)]), (.some (12, false)), [], .none⟩, ⟨(.some 15), (.pick (.tmp 12) (.const (.bool true)) (.tmp 14)), (.some (9, true)), [], .none⟩, (qS 16 (.pick (.tmp 9) (.tmp 15) (.const (.bool false)))), (qS 2 (.mv (.tmp 16)))]) .ret)), [(.tmp 2)]⟩
set_option maxHeartbeats 10000000 in
theorem d_spec_l04Char {P : Program} {env : Env}  (x0 : Int) {b : Bool} (hp : p_spec_l04Char x0 = some b) : R P env (c_spec_l04Char) ((encA (x0)).map ofI) [] (Tells true b) := by
  refine R_of (by simp [c_spec_l04Char, encA]) ?_
  unfold c_spec_l04Char
  unfold p_spec_l04Char at hp
  by_cases hb0 : (decide (0 ≤ x0)) = true
  · rw [if_t hb0] at hp
    by_cases hb1 : (decide (x0 ≤ 1114111)) = true
    · rw [if_t hb1] at hp
      by_cases hb2 : (decide (x0 < 55296)) = true
      · rw [if_t hb2] at hp
        have hp := Option.some.inj hp
        subst hp
        simp (maxSteps := 2000000) (disch := first|omega|(simp only[ls];first|done|omega)) only [hb0, hb1, hb2, gm]
      · replace hb2 := eq_false_of_ne_true hb2
        rw [if_f hb2] at hp
        have hp := Option.some.inj hp
        subst hp
        simp (maxSteps := 2000000) (disch := first|omega|(simp only[ls];first|done|omega)) only [hb0, hb1, hb2, gm]
    · replace hb1 := eq_false_of_ne_true hb1
      rw [if_f hb1] at hp
      have hp := Option.some.inj hp
      subst hp
      simp (maxSteps := 2000000) (disch := first|omega|(simp only[ls];first|done|omega)) only [hb0, hb1, gm]
  · replace hb0 := eq_false_of_ne_true hb0
    rw [if_f hb0] at hp
    have hp := Option.some.inj hp
    subst hp
    simp (maxSteps := 2000000) (disch := first|omega|(simp only[ls];first|done|omega)) only [hb0, gm]

noncomputable def p_spec_l04OpOK (x0 : TLOp) : Option Bool :=
  (p_spec_StampOK x0.id).bind fun v0 =>
  if (v0) = true then
    (p_spec_l02None x0.at_).bind fun v2 =>
    if (v2) = true then
      (p_spec_StampLess x0.at_ x0.id).bind fun v4 =>
      if (v4) = true then
        if (decide (x0.kind = 1)) = true then
          (p_spec_l04Char x0.char).bind fun v7 =>
          some v7
        else
          if (decide (x0.kind = 2)) = true then
            if (decide (x0.char = 0)) = true then
              some (!v2)
            else
              some false
          else
            some false
      else
        some false
    else
      (p_spec_StampOK x0.at_).bind fun v10 =>
      if (v10) = true then
        (p_spec_StampLess x0.at_ x0.id).bind fun v12 =>
        if (v12) = true then
          if (decide (x0.kind = 1)) = true then
            (p_spec_l04Char x0.char).bind fun v15 =>
            some v15
          else
            if (decide (x0.kind = 2)) = true then
              if (decide (x0.char = 0)) = true then
                some (!v2)
              else
                some false
            else
              some false
        else
          some false
      else
        some false
  else
    some false
def c_spec_l04OpOK (f_spec_StampOK : Nat) (f_spec_l02None : Nat) (f_spec_StampLess : Nat) (f_spec_l04Char : Nat) : AFn := ⟨47, (.seq (.ops [(qS 1 (.box (.tmp 0))), (qS 2 (.mv (.const (.bool false))))]) (.seq (.seq (.ops [(qS 3 (.fieldA 2 (.tmp 1))), (qS 4 (.load 2 true (.tmp 3))), (qS 5 (.call (2 * f_spec_StampOK) [(.tmp 4)])), (qS 6 (.pu (.n (.un .not)) [(.tmp 5)])), (qS 7 (.mv (.tmp 6))), ⟨(.some 8), (.fieldA 4 (.tmp 1)), (.some (7, false)), [], .none⟩, ⟨(.some 9), (.load 2 true (.tmp 8)), (.some (7, false)), [], .none⟩, ⟨(.some 10), (.call (2 * f_spec_l02None) [(.tmp 9)]), (.some (7, false)), [], .none⟩, ⟨(.some 11), (.pu (.n (.un .not)) [(.tmp 10)]), (.some (7, false)), [], .none⟩, ⟨(.some 12), (.mv (.tmp 11)), (.some (7, false)), [], .none⟩, ⟨(.some 13), (.fieldA 4 (.tmp 1)), (.some (12, true)), [], .none⟩, ⟨(.some 14), (.load 2 true (.tmp 13)), (.some (12, true)), [], .none⟩, ⟨(.some 15), (.call (2 * f_spec_StampOK) [(.tmp 14)]), (.some (12, true)), [], .none⟩, ⟨(.some 16), (.pu (.n (.un .not)) [(.tmp 15)]), (.some (12, true)), [], .none⟩, ⟨(.some 17), (.pick (.tmp 12) (.tmp 16) (.const (.bool false))), (.some (7, false)), [], .none⟩, (qS 18 (.pick (.tmp 7) (.const (.bool true)) (.tmp 17))), (qS 19 (.mv (.tmp 18))), ⟨(.some 20), (.fieldA 4 (.tmp 1)), (.some (19, false)), [], .none⟩, ⟨(.some 21), (.load 2 true (.tmp 20)), (.some (19, false)), [], .none⟩, ⟨(.some 22), (.fieldA 2 (.tmp 1)), (.some (19, false)), [], .none⟩, ⟨(.some 23), (.load 2 true (.tmp 22)), (.some (19, false)), [], .none⟩, ⟨(.some 24), (.call (2 * f_spec_StampLess) [(.tmp 21), (.tmp 23)]), (.some (19, false)), [], .none⟩, ⟨(.some 25), (.pu (.n (.un .not)) [(.tmp 24)]), (.some (19, false)), [], .none⟩, (qS 26 (.pick (.tmp 19) (.const (.bool true)) (.tmp 25)))]) (.cond (.tmp 26) (.seq (.ops [(qS 2 (.mv (.const (.bool false))))]) .ret) .skip)) (.seq (.seq (.ops [(qS 27 (.fieldA 0 (.tmp 1))), (qS 28 (.load 1 false (.tmp 27))), (qS 29 (.pu (.n (.ar .eql)) [(.tmp 28), (ic 1)]))]) (.cond (.tmp 29) (.seq (.ops [(qS 30 (.fieldA 1 (.tmp 1))), (qS 31 (.load 1 false (.tmp 30))), (qS 32 (.call (2 * f_spec_l04Char) [(.tmp 31)])), (qS 2 (.mv (.tmp 32)))]) .ret) .skip)) (.seq (.ops [(qS 33 (.fieldA 0 (.tmp 1))), (qS 34 (.load 1 false (.tmp 33))), (qS 35 (.pu (.n (.ar .eql)) [(.tmp 34), (ic 2)])), (qS 36 (.mv (.tmp 35))), ⟨(.some 37), (.fieldA 1 (.tmp 1)), (.some (36, true)), [], .none⟩, ⟨(.some 38), (.load 1 false (.tmp 37)), (.some (36, true)), [], .none⟩, ⟨(.some 39), (.pu (.n (.ar .eql)) [(.tmp 38), (ic 0)]), (.some (36, true)), [], .none⟩, (qS 40 (.pick (.tmp 36) (.tmp 39) (.const (.bool false)))), (qS 41 (.mv (.tmp 40))), ⟨(.some 42), (.fieldA 4 (.tmp 1)), (.some (41, true)), [], .none⟩, ⟨(.some 43), (.load 2 true (.tmp 42)), (.some (41, true)), [], .none⟩, ⟨(.some 44), (.call (2 * f_spec_l02None) [(.tmp 43)]), (.some (41, true)), [], .none⟩, ⟨(.some 45), (.pu (.n (.un .not)) [(.tmp 44)]), (.some (41, true)), [], .none⟩, (qS 46 (.pick (.tmp 41) (.tmp 45) (.const (.bool false)))), (qS 2 (.mv (.tmp 46)))]) .ret)))), [(.tmp 2)]⟩
set_option maxHeartbeats 10000000 in
theorem d_spec_l04OpOK {P : Program} {env : Env} {f_spec_StampOK : Nat} {f_spec_l02None : Nat} {f_spec_StampLess : Nat} {f_spec_l04Char : Nat}  (ep_spec_StampOK : env (2 * f_spec_StampOK) = pureFn true (FA fun a : TStamp => p_spec_StampOK a)) (ep_spec_l02None : env (2 * f_spec_l02None) = pureFn true (FA fun a : TStamp => p_spec_l02None a)) (ep_spec_StampLess : env (2 * f_spec_StampLess) = pureFn true (FA fun a : TStamp × TStamp => p_spec_StampLess a.1 a.2)) (ep_spec_l04Char : env (2 * f_spec_l04Char) = pureFn true (FA fun a : Int => p_spec_l04Char a)) (x0 : TLOp) {b : Bool} (hp : p_spec_l04OpOK x0 = some b) : R P env (c_spec_l04OpOK f_spec_StampOK f_spec_l02None f_spec_StampLess f_spec_l04Char) ((encA (x0)).map ofI) [] (Tells true b) := by
  refine R_of (by simp [c_spec_l04OpOK, encA]) ?_
  have E := And.intro ep_spec_StampOK (And.intro ep_spec_l02None (And.intro ep_spec_StampLess ep_spec_l04Char))
  unfold c_spec_l04OpOK
  unfold p_spec_l04OpOK at hp
  obtain ⟨v0, hv0, hp⟩ := bind_eq hp
  by_cases hb1 : (v0) = true
  · rw [if_t hb1] at hp
    obtain ⟨v2, hv2, hp⟩ := bind_eq hp
    by_cases hb3 : (v2) = true
    · rw [if_t hb3] at hp
      obtain ⟨v4, hv4, hp⟩ := bind_eq hp
      by_cases hb5 : (v4) = true
      · rw [if_t hb5] at hp
        by_cases hb6 : (decide (x0.kind = 1)) = true
        · rw [if_t hb6] at hp
          obtain ⟨v7, hv7, hp⟩ := bind_eq hp
          have hp := Option.some.inj hp
          subst hp
          simp (maxSteps := 2000000) (disch := first|omega|(simp only[ls];first|done|omega)) only [E, hv0, hb1, hv2, hb3, hv4, hb5, hb6, hv7, gm]
        · replace hb6 := eq_false_of_ne_true hb6
          rw [if_f hb6] at hp
          by_cases hb8 : (decide (x0.kind = 2)) = true
          · rw [if_t hb8] at hp
            by_cases hb9 : (decide (x0.char = 0)) = true
            · rw [if_t hb9] at hp
              have hp := Option.some.inj hp
              subst hp
              simp (maxSteps := 2000000) (disch := first|omega|(simp only[ls];first|done|omega)) only [E, hv0, hb1, hv2, hb3, hv4, hb5, hb6, hb8, hb9, gm]
            · replace hb9 := eq_false_of_ne_true hb9
              rw [if_f hb9] at hp
              have hp := Option.some.inj hp
              subst hp
              simp (maxSteps := 2000000) (disch := first|omega|(simp only[ls];first|done|omega)) only [E, hv0, hb1, hv2, hb3, hv4, hb5, hb6, hb8, hb9, gm]
          · replace hb8 := eq_false_of_ne_true hb8
            rw [if_f hb8] at hp
            have hp := Option.some.inj hp
            subst hp
            simp (maxSteps := 2000000) (disch := first|omega|(simp only[ls];first|done|omega)) only [E, hv0, hb1, hv2, hb3, hv4, hb5, hb6, hb8, gm]
      · replace hb5 := eq_false_of_ne_true hb5
        rw [if_f hb5] at hp
        have hp := Option.some.inj hp
        subst hp
        simp (maxSteps := 2000000) (disch := first|omega|(simp only[ls];first|done|omega)) only [E, hv0, hb1, hv2, hb3, hv4, hb5, gm]
    · replace hb3 := eq_false_of_ne_true hb3
      rw [if_f hb3] at hp
      obtain ⟨v10, hv10, hp⟩ := bind_eq hp
      by_cases hb11 : (v10) = true
      · rw [if_t hb11] at hp
        obtain ⟨v12, hv12, hp⟩ := bind_eq hp
        by_cases hb13 : (v12) = true
        · rw [if_t hb13] at hp
          by_cases hb14 : (decide (x0.kind = 1)) = true
          · rw [if_t hb14] at hp
            obtain ⟨v15, hv15, hp⟩ := bind_eq hp
            have hp := Option.some.inj hp
            subst hp
            simp (maxSteps := 2000000) (disch := first|omega|(simp only[ls];first|done|omega)) only [E, hv0, hb1, hv2, hb3, hv10, hb11, hv12, hb13, hb14, hv15, gm]
          · replace hb14 := eq_false_of_ne_true hb14
            rw [if_f hb14] at hp
            by_cases hb16 : (decide (x0.kind = 2)) = true
            · rw [if_t hb16] at hp
              by_cases hb17 : (decide (x0.char = 0)) = true
              · rw [if_t hb17] at hp
                have hp := Option.some.inj hp
                subst hp
                simp (maxSteps := 2000000) (disch := first|omega|(simp only[ls];first|done|omega)) only [E, hv0, hb1, hv2, hb3, hv10, hb11, hv12, hb13, hb14, hb16, hb17, gm]
              · replace hb17 := eq_false_of_ne_true hb17
                rw [if_f hb17] at hp
                have hp := Option.some.inj hp
                subst hp
                simp (maxSteps := 2000000) (disch := first|omega|(simp only[ls];first|done|omega)) only [E, hv0, hb1, hv2, hb3, hv10, hb11, hv12, hb13, hb14, hb16, hb17, gm]
            · replace hb16 := eq_false_of_ne_true hb16
              rw [if_f hb16] at hp
              have hp := Option.some.inj hp
              subst hp
              simp (maxSteps := 2000000) (disch := first|omega|(simp only[ls];first|done|omega)) only [E, hv0, hb1, hv2, hb3, hv10, hb11, hv12, hb13, hb14, hb16, gm]
        · replace hb13 := eq_false_of_ne_true hb13
          rw [if_f hb13] at hp
          have hp := Option.some.inj hp
          subst hp
          simp (maxSteps := 2000000) (disch := first|omega|(simp only[ls];first|done|omega)) only [E, hv0, hb1, hv2, hb3, hv10, hb11, hv12, hb13, gm]
      · replace hb11 := eq_false_of_ne_true hb11
        rw [if_f hb11] at hp
        have hp := Option.some.inj hp
        subst hp
        simp (maxSteps := 2000000) (disch := first|omega|(simp only[ls];first|done|omega)) only [E, hv0, hb1, hv2, hb3, hv10, hb11, gm]
  · replace hb1 := eq_false_of_ne_true hb1
    rw [if_f hb1] at hp
    have hp := Option.some.inj hp
    subst hp
    simp (maxSteps := 2000000) (disch := first|omega|(simp only[ls];first|done|omega)) only [E, hv0, hb1, gm]

noncomputable def p_impl_isActor (x0 : Int) : Option Bool :=
  if (decide (0 ≤ x0)) = true then
    some (decide (x0 < 16))
  else
    some false
def c_impl_isActor : AFn := ⟨9, (.seq (.ops [(qS 2 (.mv (.const (.bool false))))]) (.seq (.ops [(qS 3 (.mv (.tmp 0))), (qS 4 (.pu (.n (.ar .geq)) [(.tmp 3), (ic 0)])), (qS 5 (.mv (.tmp 4))), ⟨(.some 6), (.mv (.tmp 0)), (.some (5, true)), [], .none⟩, ⟨(.some 7), (.pu (.n (.ar .lss)) [(.tmp 6), (ic 16)]), (.some (5, true)), [], .none⟩, (qS 8 (.pick (.tmp 5) (.tmp 7) (.const (.bool false)))), (qS 2 (.mv (.tmp 8)))]) .ret)), [(.tmp 2)]⟩
set_option maxHeartbeats 10000000 in
theorem d_impl_isActor {P : Program} {env : Env}  (x0 : Int) {b : Bool} (hp : p_impl_isActor x0 = some b) : R P env (c_impl_isActor) ((encA (x0)).map ofI) [] (Tells true b) := by
  refine R_of (by simp [c_impl_isActor, encA]) ?_
  unfold c_impl_isActor
  unfold p_impl_isActor at hp
  by_cases hb0 : (decide (0 ≤ x0)) = true
  · rw [if_t hb0] at hp
    have hp := Option.some.inj hp
    subst hp
    simp (maxSteps := 2000000) (disch := first|omega|(simp only[ls];first|done|omega)) only [hb0, gm]
  · replace hb0 := eq_false_of_ne_true hb0
    rw [if_f hb0] at hp
    have hp := Option.some.inj hp
    subst hp
    simp (maxSteps := 2000000) (disch := first|omega|(simp only[ls];first|done|omega)) only [hb0, gm]

noncomputable def p_impl_StampOK (x0 : TStamp) : Option Bool :=
  if (decide (1 ≤ x0.time)) = true then
    if (decide (x0.time ≤ 1000000000000)) = true then
      (p_impl_isActor x0.actor).bind fun v2 =>
      some v2
    else
      some false
  else
    some false
def c_impl_StampOK (f_impl_isActor : Nat) : AFn := ⟨16, (.seq (.ops [(qS 1 (.box (.tmp 0))), (qS 2 (.mv (.const (.bool false))))]) (.seq (.ops [(qS 3 (.fieldA 0 (.tmp 1))), (qS 4 (.load 1 false (.tmp 3))), (qS 5 (.pu (.n (.ar .geq)) [(.tmp 4), (ic 1)])), (qS 6 (.mv (.tmp 5))), ⟨(.some 7), (.fieldA 0 (.tmp 1)), (.some (6, true)), [], .none⟩, ⟨(.some 8), (.load 1 false (.tmp 7)), (.some (6, true)), [], .none⟩, ⟨(.some 9), (.pu (.n (.ar .leq)) [(.tmp 8), (ic 1000000000000)]), (.some (6, true)), [], .none⟩, (qS 10 (.pick (.tmp 6) (.tmp 9) (.const (.bool false)))), (qS 11 (.mv (.tmp 10))), ⟨(.some 12), (.fieldA 1 (.tmp 1)), (.some (11, true)), [], .none⟩, ⟨(.some 13), (.load 1 false (.tmp 12)), (.some (11, true)), [], .none⟩, ⟨(.some 14), (.call (2 * f_impl_isActor) [(.tmp 13)]), (.some (11, true)), [], .none⟩, (qS 15 (.pick (.tmp 11) (.tmp 14) (.const (.bool false)))), (qS 2 (.mv (.tmp 15)))]) .ret)), [(.tmp 2)]⟩
set_option maxHeartbeats 10000000 in
theorem d_impl_StampOK {P : Program} {env : Env} {f_impl_isActor : Nat}  (ep_impl_isActor : env (2 * f_impl_isActor) = pureFn true (FA fun a : Int => p_impl_isActor a)) (x0 : TStamp) {b : Bool} (hp : p_impl_StampOK x0 = some b) : R P env (c_impl_StampOK f_impl_isActor) ((encA (x0)).map ofI) [] (Tells true b) := by
  refine R_of (by simp [c_impl_StampOK, encA]) ?_
  have E := ep_impl_isActor
  unfold c_impl_StampOK
  unfold p_impl_StampOK at hp
  by_cases hb0 : (decide (1 ≤ x0.time)) = true
  · rw [if_t hb0] at hp
    by_cases hb1 : (decide (x0.time ≤ 1000000000000)) = true
    · rw [if_t hb1] at hp
      obtain ⟨v2, hv2, hp⟩ := bind_eq hp
      have hp := Option.some.inj hp
      subst hp
      simp (maxSteps := 2000000) (disch := first|omega|(simp only[ls];first|done|omega)) only [E, hb0, hb1, hv2, gm]
    · replace hb1 := eq_false_of_ne_true hb1
      rw [if_f hb1] at hp
      have hp := Option.some.inj hp
      subst hp
      simp (maxSteps := 2000000) (disch := first|omega|(simp only[ls];first|done|omega)) only [E, hb0, hb1, gm]
  · replace hb0 := eq_false_of_ne_true hb0
    rw [if_f hb0] at hp
    have hp := Option.some.inj hp
    subst hp
    simp (maxSteps := 2000000) (disch := first|omega|(simp only[ls];first|done|omega)) only [E, hb0, gm]

noncomputable def p_impl_StampLess (x0 : TStamp) (x1 : TStamp) : Option Bool :=
  if (decide (x0.time = x1.time)) = true then
    some (decide (x0.actor < x1.actor))
  else
    some (decide (x0.time < x1.time))
def c_impl_StampLess : AFn := ⟨20, (.seq (.ops [(qS 2 (.box (.tmp 0))), (qS 3 (.box (.tmp 1))), (qS 4 (.mv (.const (.bool false))))]) (.seq (.seq (.ops [(qS 5 (.fieldA 0 (.tmp 2))), (qS 6 (.load 1 false (.tmp 5))), (qS 7 (.fieldA 0 (.tmp 3))), (qS 8 (.load 1 false (.tmp 7))), (qS 9 (.pu (.n (.ar .neq)) [(.tmp 6), (.tmp 8)]))]) (.cond (.tmp 9) (.seq (.ops [(qS 10 (.fieldA 0 (.tmp 2))), (qS 11 (.load 1 false (.tmp 10))), (qS 12 (.fieldA 0 (.tmp 3))), (qS 13 (.load 1 false (.tmp 12))), (qS 14 (.pu (.n (.ar .lss)) [(.tmp 11), (.tmp 13)])), (qS 4 (.mv (.tmp 14)))]) .ret) .skip)) (.seq (.ops [(qS 15 (.fieldA 1 (.tmp 2))), (qS 16 (.load 1 false (.tmp 15))), (qS 17 (.fieldA 1 (.tmp 3))), (qS 18 (.load 1 false (.tmp 17))), (qS 19 (.pu (.n (.ar .lss)) [(.tmp 16), (.tmp 18)])), (qS 4 (.mv (.tmp 19)))]) .ret))), [(.tmp 4)]⟩
set_option maxHeartbeats 10000000 in
theorem d_impl_StampLess {P : Program} {env : Env}  (x0 : TStamp) (x1 : TStamp) {b : Bool} (hp : p_impl_StampLess x0 x1 = some b) : R P env (c_impl_StampLess) ((encA (x0, x1)).map ofI) [] (Tells true b) := by
  refine R_of (by simp [c_impl_StampLess, encA]) ?_
  unfold c_impl_StampLess
  unfold p_impl_StampLess at hp
  by_cases hb0 : (decide (x0.time = x1.time)) = true
  · rw [if_t hb0] at hp
    have hp := Option.some.inj hp
    subst hp
    simp (maxSteps := 2000000) (disch := first|omega|(simp only[ls];first|done|omega)) only [hb0, gm]
  · replace hb0 := eq_false_of_ne_true hb0
    rw [if_f hb0] at hp
    have hp := Option.some.inj hp
    subst hp
    simp (maxSteps := 2000000) (disch := first|omega|(simp only[ls];first|done|omega)) only [hb0, gm]

noncomputable def p_impl_charOK (x0 : Int) : Option Bool :=
  if (decide (0 ≤ x0)) = true then
    if (decide (x0 ≤ 1114111)) = true then
      if (decide (x0 < 55296)) = true then
        some true
      else
        some (decide (57343 < x0))
    else
      some false
  else
    some false
def c_impl_charOK : AFn := ⟨17, (.seq (.ops [(qS 2 (.mv (.const (.bool false))))]) (.seq (.ops [(qS 3 (.mv (.tmp 0))), (qS 4 (.pu (.n (.ar .geq)) [(.tmp 3), (ic 0)])), (qS 5 (.mv (.tmp 4))), ⟨(.some 6), (.mv (.tmp 0)), (.some (5, true)), [], .none⟩, ⟨(.some 7), (.pu (.n (.ar .leq)) [(.tmp 6), (ic 1114111)]), (.some (5, true)), [], .none⟩, (qS 8 (.pick (.tmp 5) (.tmp 7) (.const (.bool false)))), (qS 9 (.mv (.tmp 8))), ⟨(.some 10), (.mv (.tmp 0)), (.some (9, true)), [], .none⟩, ⟨(.some 11), (.pu (.n (.ar .lss)) [(.tmp 10), (ic 55296)]), (.some (9, true)), [], .none⟩, ⟨(.some 12), (.mv (.tmp 11)), (.some (9, true)), [], .none⟩, ⟨(.some 13), (.mv (.tmp 0)), (.some (12, false)), [], .none⟩, ⟨(.some 14), (.pu (.n (.ar .gtr)) [(.tmp 13), (ic 57343)]), (.some (12, false)), [], .none⟩, ⟨(.some 15), (.pick (.tmp 12) (.const (.bool true)) (.tmp 14)), (.some (9, true)), [], .none⟩, (qS 16 (.pick (.tmp 9) (.tmp 15) (.const (.bool false)))), (qS 2 (.mv (.tmp 16)))]) .ret)), [(.tmp 2)]⟩
set_option maxHeartbeats 10000000 in
theorem d_impl_charOK {P : Program} {env : Env}  (x0 : Int) {b : Bool} (hp : p_impl_charOK x0 = some b) : R P env (c_impl_charOK) ((encA (x0)).map ofI) [] (Tells true b) := by
  refine R_of (by simp [c_impl_charOK, encA]) ?_
  unfold c_impl_charOK
  unfold p_impl_charOK at hp
  by_cases hb0 : (decide (0 ≤ x0)) = true
  · rw [if_t hb0] at hp
    by_cases hb1 : (decide (x0 ≤ 1114111)) = true
    · rw [if_t hb1] at hp
      by_cases hb2 : (decide (x0 < 55296)) = true
      · rw [if_t hb2] at hp
        have hp := Option.some.inj hp
        subst hp
        simp (maxSteps := 2000000) (disch := first|omega|(simp only[ls];first|done|omega)) only [hb0, hb1, hb2, gm]
      · replace hb2 := eq_false_of_ne_true hb2
        rw [if_f hb2] at hp
        have hp := Option.some.inj hp
        subst hp
        simp (maxSteps := 2000000) (disch := first|omega|(simp only[ls];first|done|omega)) only [hb0, hb1, hb2, gm]
    · replace hb1 := eq_false_of_ne_true hb1
      rw [if_f hb1] at hp
      have hp := Option.some.inj hp
      subst hp
      simp (maxSteps := 2000000) (disch := first|omega|(simp only[ls];first|done|omega)) only [hb0, hb1, gm]
  · replace hb0 := eq_false_of_ne_true hb0
    rw [if_f hb0] at hp
    have hp := Option.some.inj hp
    subst hp
    simp (maxSteps := 2000000) (disch := first|omega|(simp only[ls];first|done|omega)) only [hb0, gm]

noncomputable def p_impl_lopOK (x0 : TLOp) : Option Bool :=
  (p_impl_StampOK x0.id).bind fun v0 =>
  if (v0) = true then
    (p_impl_StampOK x0.at_).bind fun v2 =>
    if (v2) = true then
      (p_impl_StampLess x0.at_ x0.id).bind fun v4 =>
      if (decide (x0.kind = 1)) = true then
        (p_impl_charOK x0.char).bind fun v6 =>
        if (v6) = true then
          if (v4) = true then
            some true
          else
            some (decide (x0.at_.time = 0) && decide (x0.at_.actor = 0))
        else
          some false
      else
        if (decide (x0.kind = 2)) = true then
          if (decide (x0.char = 0)) = true then
            some v4
          else
            some false
        else
          some false
    else
      if (decide (x0.kind = 1)) = true then
        (p_impl_charOK x0.char).bind fun v12 =>
        if (v12) = true then
          some (decide (x0.at_.time = 0) && decide (x0.at_.actor = 0))
        else
          some false
      else
        if (decide (x0.kind = 2)) = true then
          if (decide (x0.char = 0)) = true then
            some false
          else
            some false
        else
          some false
  else
    some false
def c_impl_lopOK (f_impl_StampOK : Nat) (f_impl_StampLess : Nat) (f_impl_charOK : Nat) : AFn := ⟨42, (.seq (.ops [(qS 1 (.box (.tmp 0))), (qS 2 (.mv (.const (.bool false))))]) (.seq (.seq (.ops [(qS 4 (.fieldA 2 (.tmp 1))), (qS 5 (.load 2 true (.tmp 4))), (qS 6 (.call (2 * f_impl_StampOK) [(.tmp 5)])), (qS 7 (.pu (.n (.un .not)) [(.tmp 6)]))]) (.cond (.tmp 7) (.seq (.ops [(qS 2 (.mv (.const (.bool false))))]) .ret) .skip)) (.seq (.ops [(qS 8 (.fieldA 4 (.tmp 1))), (qS 9 (.load 2 true (.tmp 8))), (qS 10 (.call (2 * f_impl_StampOK) [(.tmp 9)])), (qS 11 (.mv (.tmp 10))), ⟨(.some 12), (.fieldA 4 (.tmp 1)), (.some (11, true)), [], .none⟩, ⟨(.some 13), (.load 2 true (.tmp 12)), (.some (11, true)), [], .none⟩, ⟨(.some 14), (.fieldA 2 (.tmp 1)), (.some (11, true)), [], .none⟩, ⟨(.some 15), (.load 2 true (.tmp 14)), (.some (11, true)), [], .none⟩, ⟨(.some 16), (.call (2 * f_impl_StampLess) [(.tmp 13), (.tmp 15)]), (.some (11, true)), [], .none⟩, (qS 17 (.pick (.tmp 11) (.tmp 16) (.const (.bool false)))), (qS 3 (.mv (.tmp 17)))]) (.seq (.seq (.ops [(qS 18 (.fieldA 0 (.tmp 1))), (qS 19 (.load 1 false (.tmp 18)))]) (.block 0 (.seq (.ops [(qS 21 (.pu (.n (.ar .eql)) [(.tmp 19), (ic 1)])), (qS 20 (.mv (.tmp 21)))]) (.cond (.tmp 20) (.seq (.ops [(qS 22 (.fieldA 1 (.tmp 1))), (qS 23 (.load 1 false (.tmp 22))), (qS 24 (.call (2 * f_impl_charOK) [(.tmp 23)])), (qS 25 (.mv (.tmp 24))), ⟨(.some 26), (.mv (.tmp 3)), (.some (25, true)), [], .none⟩, ⟨(.some 27), (.mv (.tmp 26)), (.some (25, true)), [], .none⟩, ⟨(.some 28), (.fieldA 4 (.tmp 1)), (.some (27, false)), [], .none⟩, ⟨(.some 29), (.load 2 true (.tmp 28)), (.some (27, false)), [], .none⟩, ⟨(.some 30), (.build [(.int .i64 0), (.int .i64 0)] []), (.some (27, false)), [], .none⟩, ⟨(.some 31), (.aeq false [(.int .i64), (.int .i64)] (.tmp 29) (.tmp 30)), (.some (27, false)), [], .none⟩, ⟨(.some 32), (.pick (.tmp 27) (.const (.bool true)) (.tmp 31)), (.some (25, true)), [], .none⟩, (qS 33 (.pick (.tmp 25) (.tmp 32) (.const (.bool false)))), (qS 2 (.mv (.tmp 33)))]) .ret) (.seq (.ops [(qS 35 (.pu (.n (.ar .eql)) [(.tmp 19), (ic 2)])), (qS 34 (.mv (.tmp 35)))]) (.cond (.tmp 34) (.seq (.ops [(qS 36 (.fieldA 1 (.tmp 1))), (qS 37 (.load 1 false (.tmp 36))), (qS 38 (.pu (.n (.ar .eql)) [(.tmp 37), (ic 0)])), (qS 39 (.mv (.tmp 38))), ⟨(.some 40), (.mv (.tmp 3)), (.some (39, true)), [], .none⟩, (qS 41 (.pick (.tmp 39) (.tmp 40) (.const (.bool false)))), (qS 2 (.mv (.tmp 41)))]) .ret) .skip)))))) (.seq (.ops [(qS 2 (.mv (.const (.bool false))))]) .ret))))), [(.tmp 2)]⟩
set_option maxHeartbeats 10000000 in
theorem d_impl_lopOK {P : Program} {env : Env} {f_impl_StampOK : Nat} {f_impl_StampLess : Nat} {f_impl_charOK : Nat}  (ep_impl_StampOK : env (2 * f_impl_StampOK) = pureFn true (FA fun a : TStamp => p_impl_StampOK a)) (ep_impl_StampLess : env (2 * f_impl_StampLess) = pureFn true (FA fun a : TStamp × TStamp => p_impl_StampLess a.1 a.2)) (ep_impl_charOK : env (2 * f_impl_charOK) = pureFn true (FA fun a : Int => p_impl_charOK a)) (x0 : TLOp) {b : Bool} (hp : p_impl_lopOK x0 = some b) : R P env (c_impl_lopOK f_impl_StampOK f_impl_StampLess f_impl_charOK) ((encA (x0)).map ofI) [] (Tells true b) := by
  refine R_of (by simp [c_impl_lopOK, encA]) ?_
  have E := And.intro ep_impl_StampOK (And.intro ep_impl_StampLess ep_impl_charOK)
  unfold c_impl_lopOK
  unfold p_impl_lopOK at hp
  obtain ⟨v0, hv0, hp⟩ := bind_eq hp
  by_cases hb1 : (v0) = true
  · rw [if_t hb1] at hp
    obtain ⟨v2, hv2, hp⟩ := bind_eq hp
    by_cases hb3 : (v2) = true
    · rw [if_t hb3] at hp
      obtain ⟨v4, hv4, hp⟩ := bind_eq hp
      by_cases hb5 : (decide (x0.kind = 1)) = true
      · rw [if_t hb5] at hp
        obtain ⟨v6, hv6, hp⟩ := bind_eq hp
        by_cases hb7 : (v6) = true
        · rw [if_t hb7] at hp
          by_cases hb8 : (v4) = true
          · rw [if_t hb8] at hp
            have hp := Option.some.inj hp
            subst hp
            simp (maxSteps := 2000000) (disch := first|omega|(simp only[ls];first|done|omega)) only [E, hv0, hb1, hv2, hb3, hv4, hb5, hv6, hb7, hb8, gm]
          · replace hb8 := eq_false_of_ne_true hb8
            rw [if_f hb8] at hp
            have hp := Option.some.inj hp
            subst hp
            simp (maxSteps := 2000000) (disch := first|omega|(simp only[ls];first|done|omega)) only [E, hv0, hb1, hv2, hb3, hv4, hb5, hv6, hb7, hb8, gm]
        · replace hb7 := eq_false_of_ne_true hb7
          rw [if_f hb7] at hp
          have hp := Option.some.inj hp
          subst hp
          simp (maxSteps := 2000000) (disch := first|omega|(simp only[ls];first|done|omega)) only [E, hv0, hb1, hv2, hb3, hv4, hb5, hv6, hb7, gm]
      · replace hb5 := eq_false_of_ne_true hb5
        rw [if_f hb5] at hp
        by_cases hb9 : (decide (x0.kind = 2)) = true
        · rw [if_t hb9] at hp
          by_cases hb10 : (decide (x0.char = 0)) = true
          · rw [if_t hb10] at hp
            have hp := Option.some.inj hp
            subst hp
            simp (maxSteps := 2000000) (disch := first|omega|(simp only[ls];first|done|omega)) only [E, hv0, hb1, hv2, hb3, hv4, hb5, hb9, hb10, gm]
          · replace hb10 := eq_false_of_ne_true hb10
            rw [if_f hb10] at hp
            have hp := Option.some.inj hp
            subst hp
            simp (maxSteps := 2000000) (disch := first|omega|(simp only[ls];first|done|omega)) only [E, hv0, hb1, hv2, hb3, hv4, hb5, hb9, hb10, gm]
        · replace hb9 := eq_false_of_ne_true hb9
          rw [if_f hb9] at hp
          have hp := Option.some.inj hp
          subst hp
          simp (maxSteps := 2000000) (disch := first|omega|(simp only[ls];first|done|omega)) only [E, hv0, hb1, hv2, hb3, hv4, hb5, hb9, gm]
    · replace hb3 := eq_false_of_ne_true hb3
      rw [if_f hb3] at hp
      by_cases hb11 : (decide (x0.kind = 1)) = true
      · rw [if_t hb11] at hp
        obtain ⟨v12, hv12, hp⟩ := bind_eq hp
        by_cases hb13 : (v12) = true
        · rw [if_t hb13] at hp
          have hp := Option.some.inj hp
          subst hp
          simp (maxSteps := 2000000) (disch := first|omega|(simp only[ls];first|done|omega)) only [E, hv0, hb1, hv2, hb3, hb11, hv12, hb13, gm]
        · replace hb13 := eq_false_of_ne_true hb13
          rw [if_f hb13] at hp
          have hp := Option.some.inj hp
          subst hp
          simp (maxSteps := 2000000) (disch := first|omega|(simp only[ls];first|done|omega)) only [E, hv0, hb1, hv2, hb3, hb11, hv12, hb13, gm]
      · replace hb11 := eq_false_of_ne_true hb11
        rw [if_f hb11] at hp
        by_cases hb14 : (decide (x0.kind = 2)) = true
        · rw [if_t hb14] at hp
          by_cases hb15 : (decide (x0.char = 0)) = true
          · rw [if_t hb15] at hp
            have hp := Option.some.inj hp
            subst hp
            simp (maxSteps := 2000000) (disch := first|omega|(simp only[ls];first|done|omega)) only [E, hv0, hb1, hv2, hb3, hb11, hb14, hb15, gm]
          · replace hb15 := eq_false_of_ne_true hb15
            rw [if_f hb15] at hp
            have hp := Option.some.inj hp
            subst hp
            simp (maxSteps := 2000000) (disch := first|omega|(simp only[ls];first|done|omega)) only [E, hv0, hb1, hv2, hb3, hb11, hb14, hb15, gm]
        · replace hb14 := eq_false_of_ne_true hb14
          rw [if_f hb14] at hp
          have hp := Option.some.inj hp
          subst hp
          simp (maxSteps := 2000000) (disch := first|omega|(simp only[ls];first|done|omega)) only [E, hv0, hb1, hv2, hb3, hb11, hb14, gm]
  · replace hb1 := eq_false_of_ne_true hb1
    rw [if_f hb1] at hp
    have hp := Option.some.inj hp
    subst hp
    simp (maxSteps := 2000000) (disch := first|omega|(simp only[ls];first|done|omega)) only [E, hv0, hb1, gm]

noncomputable def p_spec_l04Has_l0 (x0 : List TLOp) (x1 : TStamp) : Int × Int → Option (Lp (Int × Int) Bool)
  | (s0, s1) =>
    if (decide (1 < w64 (s1 - s0))) = true then
      (get? x0 (w64 (Int.tdiv (w64 (s0 + s1)) 2))).bind fun v3 =>
      (p_spec_StampLess x1 v3.id).bind fun v4 =>
      if (v4) = true then
        some (.go (s0, w64 (Int.tdiv (w64 (s0 + s1)) 2)))
      else
        some (.go (w64 (Int.tdiv (w64 (s0 + s1)) 2), s1))
    else
      some (.out (s0, s1))
noncomputable def p_spec_l04Has (x0 : List TLOp) (x1 : TStamp) : Option Bool :=
  (loopP (p_spec_l04Has_l0 x0 x1) (0, (x0.length : Int))).bind fun ee0 => match ee0 with
  | .ret r => some r
  | .out (o6, o7) =>
    if (decide (o6 < o7)) = true then
      (get? x0 o6).bind fun v9 =>
      if ((decide (v9.id.time = x1.time) && decide (v9.id.actor = x1.actor))) = true then
        some (decide (v9.kind = 1))
      else
        some false
    else
      some false
def c_spec_l04Has (f_spec_StampLess : Nat) : AFn := ⟨47, (.seq (.ops [(qS 3 (.box (.tmp 1))), (qS 4 (.mv (.const (.bool false))))]) (.seq (.ops [(qS 5 (.mv (ic 0)))]) (.seq (.ops [(qS 8 (.mv (.tmp 0))), (qS 9 (.len (.tmp 8))), (qS 6 (.mv (.tmp 9)))]) (.seq (.block 0 (.loop (.seq (.seq (.ops [(qS 10 (.mv (.tmp 6))), (qS 11 (.mv (.tmp 5))), (qS 12 (.pu (.n (.ar .sub)) [(.tmp 10), (.tmp 11)])), (qS 13 (.pu (.n (.ar .gtr)) [(.tmp 12), (ic 1)]))]) (.cond (.tmp 13) .skip (.exit 0))) (.block 1 (.seq (.ops [(qS 14 (.mv (.tmp 5))), (qS 15 (.mv (.tmp 6))), (qS 16 (.pu (.n (.ar .add)) [(.tmp 14), (.tmp 15)])), (qS 17 (.pu (.n (.ar .quo)) [(.tmp 16), (ic 2)])), (qS 7 (.mv (.tmp 17)))]) (.seq (.ops [(qS 18 (.load 2 true (.tmp 3))), (qS 19 (.mv (.tmp 0))), (qS 20 (.mv (.tmp 7))), (qS 21 (.idxS 6 (.tmp 19) (.tmp 20))), (qS 22 (.fieldA 2 (.tmp 21))), (qS 23 (.load 2 true (.tmp 22))), (qS 24 (.call (2 * f_spec_StampLess) [(.tmp 18), (.tmp 23)]))]) (.cond (.tmp 24) (.ops [(qS 25 (.mv (.tmp 7))), (qS 6 (.mv (.tmp 25)))]) (.ops [(qS 26 (.mv (.tmp 7))), (qS 5 (.mv (.tmp 26)))])))))))) (.seq (.ops [(qS 27 (.mv (.tmp 6))), (qS 28 (.mv (.tmp 5))), (qS 29 (.pu (.n (.ar .gtr)) [(.tmp 27), (.tmp 28)])), (qS 30 (.mv (.tmp 29))), ⟨(.some 31), (.mv (.tmp 0)), (.some (30, true)), [], .none⟩, ⟨(.some 32), (.mv (.tmp 5)), (.some (30, true)), [], .none⟩, ⟨(.some 33), (.idxS 6 (.tmp 31) (.tmp 32)), (.some (30, true)), [], .none⟩, ⟨(.some 34), (.fieldA 2 (.tmp 33)), (.some (30, true)), [], .none⟩, ⟨(.some 35), (.load 2 true (.tmp 34)), (.some (30, true)), [], .none⟩, ⟨(.some 36), (.load 2 true (.tmp 3)), (.some (30, true)), [], .none⟩, ⟨(.some 37), (.aeq false [(.int .i64), (.int .i64)] (.tmp 35) (.tmp 36)), (.some (30, true)), [], .none⟩, (qS 38 (.pick (.tmp 30) (.tmp 37) (.const (.bool false)))), (qS 39 (.mv (.tmp 38))), ⟨(.some 40), (.mv (.tmp 0)), (.some (39, true)), [], .none⟩, ⟨(.some 41), (.mv (.tmp 5)), (.some (39, true)), [], .none⟩, ⟨(.some 42), (.idxS 6 (.tmp 40) (.tmp 41)), (.some (39, true)), [], .none⟩, ⟨(.some 43), (.fieldA 0 (.tmp 42)), (.some (39, true)), [], .none⟩, ⟨(.some 44), (.load 1 false (.tmp 43)), (.some (39, true)), [], .none⟩, ⟨(.some 45), (.pu (.n (.ar .eql)) [(.tmp 44), (ic 1)]), (.some (39, true)), [], .none⟩, (qS 46 (.pick (.tmp 39) (.tmp 45) (.const (.bool false)))), (qS 4 (.mv (.tmp 46)))]) .ret))))), [(.tmp 4)]⟩
set_option maxHeartbeats 10000000 in
theorem d_spec_l04Has {P : Program} {env : Env} {f_spec_StampLess : Nat}  (ep_spec_StampLess : env (2 * f_spec_StampLess) = pureFn true (FA fun a : TStamp × TStamp => p_spec_StampLess a.1 a.2)) (x0 : List TLOp) (x1 : TStamp) {b : Bool} (hp : p_spec_l04Has x0 x1 = some b) : R P env (c_spec_l04Has f_spec_StampLess) ((encA (x0, x1)).map ofI) [] (Tells true b) := by
  refine R_of (by simp [c_spec_l04Has, encA]) ?_
  have E := ep_spec_StampLess
  unfold c_spec_l04Has
  unfold p_spec_l04Has at hp
  obtain ⟨ee0, hee0, hp⟩ := bind_eq hp
  simp (maxSteps := 2000000) (disch := first|omega|(simp only[ls];first|done|omega)) only [E, gm]
  refine W_loopP 0 (fun s t h => match s with | (s0, s1) => t 0 = .i (.sl 6 (x0.map enc)) ∧ t 3 = .ptr 0 2 0 ∧ t 5 = .i (.s (.int .i64 s0)) ∧ t 6 = .i (.s (.int .i64 s1)) ∧ getCells h 0 2 = some [.i (.s (.int .i64 x1.time)), .i (.s (.int .i64 x1.actor))] ∧ 0 < h.length) (RK [.tmp 4] (Tells true)) ?_ hee0 ?_ ?_
  · rintro ⟨s0, s1⟩ ee tt0 hh0 ⟨ftt0_0, ftt0_1, ftt0_2, ftt0_3, ftt0_4, ftt0_5⟩ hp
    rw [p_spec_l04Has_l0] at hp
    by_cases hb2 : (decide (1 < w64 (s1 - s0))) = true
    · rw [if_t hb2] at hp
      obtain ⟨v3, hv3, hp⟩ := bind_eq hp
      obtain ⟨v4, hv4, hp⟩ := bind_eq hp
      by_cases hb5 : (v4) = true
      · rw [if_t hb5] at hp
        have hp := Option.some.inj hp
        subst hp
        simp (maxSteps := 2000000) (disch := first|omega|(simp only[ls];first|done|omega)) only [E, ftt0_0, ftt0_1, ftt0_2, ftt0_3, ftt0_4, ftt0_5, hb2, hv3, hv4, hb5, gm] <;> omega
      · replace hb5 := eq_false_of_ne_true hb5
        rw [if_f hb5] at hp
        have hp := Option.some.inj hp
        subst hp
        simp (maxSteps := 2000000) (disch := first|omega|(simp only[ls];first|done|omega)) only [E, ftt0_0, ftt0_1, ftt0_2, ftt0_3, ftt0_4, ftt0_5, hb2, hv3, hv4, hb5, gm] <;> omega
    · replace hb2 := eq_false_of_ne_true hb2
      rw [if_f hb2] at hp
      have hp := Option.some.inj hp
      subst hp
      simp (maxSteps := 2000000) (disch := first|omega|(simp only[ls];first|done|omega)) only [E, ftt0_0, ftt0_1, ftt0_2, ftt0_3, ftt0_4, ftt0_5, hb2, gm] <;> omega
  · simp (maxSteps := 2000000) (disch := first|omega|(simp only[ls];first|done|omega)) only [E, gm] <;> omega
  · intro x tt1 hh1 hx
    rcases ee0 with ⟨o6, o7⟩ | r
    · obtain ⟨rfl, ftt1_0, ftt1_1, ftt1_2, ftt1_3, ftt1_4, ftt1_5⟩ := hx
      dsimp only at hp
      by_cases hb8 : (decide (o6 < o7)) = true
      · rw [if_t hb8] at hp
        obtain ⟨v9, hv9, hp⟩ := bind_eq hp
        by_cases hb10 : ((decide (v9.id.time = x1.time) && decide (v9.id.actor = x1.actor))) = true
        · rw [if_t hb10] at hp
          have hp := Option.some.inj hp
          subst hp
          simp (maxSteps := 2000000) (disch := first|omega|(simp only[ls];first|done|omega)) only [E, ftt1_0, ftt1_1, ftt1_2, ftt1_3, ftt1_4, ftt1_5, hb8, hv9, hb10, gm]
        · replace hb10 := eq_false_of_ne_true hb10
          rw [if_f hb10] at hp
          have hp := Option.some.inj hp
          subst hp
          simp (maxSteps := 2000000) (disch := first|omega|(simp only[ls];first|done|omega)) only [E, ftt1_0, ftt1_1, ftt1_2, ftt1_3, ftt1_4, ftt1_5, hb8, hv9, hb10, gm]
      · replace hb8 := eq_false_of_ne_true hb8
        rw [if_f hb8] at hp
        have hp := Option.some.inj hp
        subst hp
        simp (maxSteps := 2000000) (disch := first|omega|(simp only[ls];first|done|omega)) only [E, ftt1_0, ftt1_1, ftt1_2, ftt1_3, ftt1_4, ftt1_5, hb8, gm]
    · obtain ⟨rfl, hx⟩ := hx
      dsimp only at hp
      cases hp
      simp only [seqK_ret, blockK_ret, retK_RK (K := Tells true), hx, and_self, true_and]

noncomputable def p_spec_l04Sort_l0 : List TLOp × List TLOp × List TLOp → Option (Lp (List TLOp × List TLOp × List TLOp) (List TLOp))
  | (s6, s7, s8) =>
    if (decide (0 < (s7.length : Int))) = true then
      if (decide ((s8.length : Int) = 0)) = true then
        (get? s7 0).bind fun v11 =>
        (app? 48 s6 ([v11])).bind fun v12 =>
        (cut? s7 1 (s7.length : Int)).bind fun v13 =>
        some (.go (v12, v13, s8))
      else
        (get? s8 0).bind fun v14 =>
        (get? s7 0).bind fun v15 =>
        (p_spec_StampLess v14.id v15.id).bind fun v16 =>
        if (v16) = true then
          (app? 48 s6 ([v14])).bind fun v18 =>
          (cut? s8 1 (s8.length : Int)).bind fun v19 =>
          some (.go (v18, s7, v19))
        else
          (app? 48 s6 ([v15])).bind fun v20 =>
          (cut? s7 1 (s7.length : Int)).bind fun v21 =>
          some (.go (v20, v21, s8))
    else
      if (decide (0 < (s8.length : Int))) = true then
        if (decide ((s8.length : Int) = 0)) = true then
          (get? s7 0).bind fun v24 =>
          (app? 48 s6 ([v24])).bind fun v25 =>
          (cut? s7 1 (s7.length : Int)).bind fun v26 =>
          some (.go (v25, v26, s8))
        else
          (get? s8 0).bind fun v27 =>
          (app? 48 s6 ([v27])).bind fun v28 =>
          (cut? s8 1 (s8.length : Int)).bind fun v29 =>
          some (.go (v28, s7, v29))
      else
        some (.out (s6, s7, s8))
noncomputable def pB_spec_l04Sort (rr : (List TLOp) → Option (List TLOp)) (x0 : List TLOp) : Option (List TLOp) :=
  if (decide ((x0.length : Int) < 2)) = true then
    (app? 48 ([] : List TLOp) x0).bind fun v1 =>
    some v1
  else
    (cut? x0 0 (w64 (Int.tdiv (x0.length : Int) 2))).bind fun v2 =>
    (rr v2).bind fun v3 =>
    (cut? x0 (w64 (Int.tdiv (x0.length : Int) 2)) (x0.length : Int)).bind fun v4 =>
    (rr v4).bind fun v5 =>
    (loopP (p_spec_l04Sort_l0) (([] : List TLOp), v3, v5)).bind fun ee0 => match ee0 with
    | .ret r => some r
    | .out (o30, o31, o32) =>
      some o30
noncomputable def pN_spec_l04Sort : Nat → (List TLOp) → Option (List TLOp)
  | 0 => fun _ => none
  | n + 1 => pB_spec_l04Sort (pN_spec_l04Sort n)
noncomputable def p_spec_l04Sort (x0 : List TLOp) : Option (List TLOp) := fixP fun n => pN_spec_l04Sort n x0
def c_spec_l04Sort (f_spec_l04Sort : Nat) (f_spec_StampLess : Nat) : AFn := ⟨70, (.seq (.ops [(qS 2 (.vnil 6 true))]) (.seq (.seq (.ops [(qS 6 (.mv (.tmp 0))), (qS 7 (.len (.tmp 6))), (qS 8 (.pu (.n (.ar .lss)) [(.tmp 7), (ic 2)]))]) (.cond (.tmp 8) (.seq (.ops [(qS 9 (.buildSl 6 true 0 [(.int .i64 0), (.int .i64 0), (.int .i64 0), (.int .i64 0), (.int .i64 0), (.int .i64 0)] [])), (qS 10 (.mv (.tmp 0))), (qS 11 (.append 6 true 48 (.tmp 9) (.tmp 10))), (qS 2 (.mv (.tmp 11)))]) .ret) .skip)) (.seq (.ops [(qS 12 (.mv (.tmp 0))), (qS 13 (.mv (.tmp 0))), (qS 14 (.len (.tmp 13))), (qS 15 (.pu (.n (.ar .quo)) [(.tmp 14), (ic 2)])), (qS 16 (.slice 6 (.tmp 12) .none (.some (.tmp 15)))), (qS 17 (.call (2 * f_spec_l04Sort) [(.tmp 16)])), (qS 3 (.mv (.tmp 17)))]) (.seq (.ops [(qS 18 (.mv (.tmp 0))), (qS 19 (.mv (.tmp 0))), (qS 20 (.len (.tmp 19))), (qS 21 (.pu (.n (.ar .quo)) [(.tmp 20), (ic 2)])), (qS 22 (.slice 6 (.tmp 18) (.some (.tmp 21)) .none)), (qS 23 (.call (2 * f_spec_l04Sort) [(.tmp 22)])), (qS 4 (.mv (.tmp 23)))]) (.seq (.ops [(qS 24 (.buildSl 6 true 0 [(.int .i64 0), (.int .i64 0), (.int .i64 0), (.int .i64 0), (.int .i64 0), (.int .i64 0)] [])), (qS 5 (.mv (.tmp 24)))]) (.seq (.block 0 (.loop (.seq (.seq (.ops [(qS 25 (.mv (.tmp 3))), (qS 26 (.len (.tmp 25))), (qS 27 (.pu (.n (.ar .gtr)) [(.tmp 26), (ic 0)])), (qS 28 (.mv (.tmp 27))), ⟨(.some 29), (.mv (.tmp 4)), (.some (28, false)), [], .none⟩, ⟨(.some 30), (.len (.tmp 29)), (.some (28, false)), [], .none⟩, ⟨(.some 31), (.pu (.n (.ar .gtr)) [(.tmp 30), (ic 0)]), (.some (28, false)), [], .none⟩, (qS 32 (.pick (.tmp 28) (.const (.bool true)) (.tmp 31)))]) (.cond (.tmp 32) .skip (.exit 0))) (.block 1 (.seq (.ops [(qS 33 (.mv (.tmp 4))), (qS 34 (.len (.tmp 33))), (qS 35 (.pu (.n (.ar .eql)) [(.tmp 34), (ic 0)])), (qS 36 (.mv (.tmp 35))), ⟨(.some 37), (.mv (.tmp 3)), (.some (36, false)), [], .none⟩, ⟨(.some 38), (.len (.tmp 37)), (.some (36, false)), [], .none⟩, ⟨(.some 39), (.pu (.n (.ar .gtr)) [(.tmp 38), (ic 0)]), (.some (36, false)), [], .none⟩, ⟨(.some 40), (.mv (.tmp 39)), (.some (36, false)), [], .none⟩, ⟨(.some 41), (.mv (.tmp 4)), (.some (40, true)), [], .none⟩, ⟨(.some 42), (.idxS 6 (.tmp 41) (ic 0)), (.some (40, true)), [], .none⟩, ⟨(.some 43), (.fieldA 2 (.tmp 42)), (.some (40, true)), [], .none⟩, ⟨(.some 44), (.load 2 true (.tmp 43)), (.some (40, true)), [], .none⟩, ⟨(.some 45), (.mv (.tmp 3)), (.some (40, true)), [], .none⟩, ⟨(.some 46), (.idxS 6 (.tmp 45) (ic 0)), (.some (40, true)), [], .none⟩, ⟨(.some 47), (.fieldA 2 (.tmp 46)), (.some (40, true)), [], .none⟩, ⟨(.some 48), (.load 2 true (.tmp 47)), (.some (40, true)), [], .none⟩, ⟨(.some 49), (.call (2 * f_spec_StampLess) [(.tmp 44), (.tmp 48)]), (.some (40, true)), [], .none⟩, ⟨(.some 50), (.pu (.n (.un .not)) [(.tmp 49)]), (.some (40, true)), [], .none⟩, ⟨(.some 51), (.pick (.tmp 40) (.tmp 50) (.const (.bool false))), (.some (36, false)), [], .none⟩, (qS 52 (.pick (.tmp 36) (.const (.bool true)) (.tmp 51)))]) (.cond (.tmp 52) (.seq (.ops [(qS 53 (.mv (.tmp 5))), (qS 54 (.mv (.tmp 3))), (qS 55 (.idxS 6 (.tmp 54) (ic 0))), (qS 56 (.load 6 true (.tmp 55))), (qS 57 (.buildSl 6 true 1 [(.int .i64 0), (.int .i64 0), (.int .i64 0), (.int .i64 0), (.int .i64 0), (.int .i64 0)] [(0, (.tmp 56))])), (qS 58 (.append 6 true 48 (.tmp 53) (.tmp 57))), (qS 5 (.mv (.tmp 58)))]) (.ops [(qS 59 (.mv (.tmp 3))), (qS 60 (.slice 6 (.tmp 59) (.some (ic 1)) .none)), (qS 3 (.mv (.tmp 60)))])) (.seq (.ops [(qS 61 (.mv (.tmp 5))), (qS 62 (.mv (.tmp 4))), (qS 63 (.idxS 6 (.tmp 62) (ic 0))), (qS 64 (.load 6 true (.tmp 63))), (qS 65 (.buildSl 6 true 1 [(.int .i64 0), (.int .i64 0), (.int .i64 0), (.int .i64 0), (.int .i64 0), (.int .i64 0)] [(0, (.tmp 64))])), (qS 66 (.append 6 true 48 (.tmp 61) (.tmp 65))), (qS 5 (.mv (.tmp 66)))]) (.ops [(qS 67 (.mv (.tmp 4))), (qS 68 (.slice 6 (.tmp 67) (.some (ic 1)) .none)), (qS 4 (.mv (.tmp 68)))])))))))) (.seq (.ops [(qS 69 (.mv (.tmp 5))), (qS 2 (.mv (.tmp 69)))]) .ret))))))), [(.tmp 2)]⟩
set_option maxHeartbeats 10000000 in
theorem d_spec_l04Sort {P : Program} {env : Env} {f_spec_l04Sort : Nat} {f_spec_StampLess : Nat} {rr : (List TLOp) → Option (List TLOp)}  (ep_spec_l04Sort : env (2 * f_spec_l04Sort) = pureFn true (FA fun a : List TLOp => rr a)) (ep_spec_StampLess : env (2 * f_spec_StampLess) = pureFn true (FA fun a : TStamp × TStamp => p_spec_StampLess a.1 a.2)) (x0 : List TLOp) {b : List TLOp} (hp : pB_spec_l04Sort rr x0 = some b) : R P env (c_spec_l04Sort f_spec_l04Sort f_spec_StampLess) ((encA (x0)).map ofI) [] (Tells true b) := by
  refine R_of (by simp [c_spec_l04Sort, encA]) ?_
  have E := And.intro ep_spec_l04Sort ep_spec_StampLess
  unfold c_spec_l04Sort
  unfold pB_spec_l04Sort at hp
  by_cases hb0 : (decide ((x0.length : Int) < 2)) = true
  · rw [if_t hb0] at hp
    obtain ⟨v1, hv1, hp⟩ := bind_eq hp
    simp (maxSteps := 2000000) (disch := first|omega|(simp only[ls];first|done|omega)) only [E, hb0, gm]
    refine app_f (b := 1) (xs := ([] : List TLOp)) (ys := x0) (fun h => getCells h 0 0 = some [] ∧ 0 < h.length ∧ getCells h 1 0 = some [] ∧ 1 < h.length) ?_ ?_ hv1 rfl (by first | rfl | omega | (simp; omega)) (by first | rfl | omega | (simp; omega)) (by first | rfl | omega | (simp; omega)) ?_
    · simp (maxSteps := 2000000) (disch := first|omega|(simp only[ls];first|done|omega)) only [E, hb0, hv1, gm] <;> omega
    · rintro h ⟨c0_0, c0_1, c0_2, c0_3⟩
      exact gc_eq c0_2 (by omega)
    · rintro h hh0 ⟨c0_0, c0_1, c0_2, c0_3⟩ kk0 w0
      have d0_0 : getCells hh0 0 0 = some [] := (keep_get kk0 c0_1 (by first | (simp; done) | (simp; omega))).trans c0_0
      have d0_0l := keep_lt kk0 c0_1
      have d0_1 : getCells hh0 1 (v1.length * 6) = some (rows (v1 : List TLOp)) := by simpa only [Nat.mul_one] using w0
      have d0_1l := keep_lt kk0 c0_3
      have hp := Option.some.inj hp
      subst hp
      simp (maxSteps := 2000000) (disch := first|omega|(simp only[ls];first|done|omega)) only [E, hb0, hv1, d0_0, d0_1, gm]
  · replace hb0 := eq_false_of_ne_true hb0
    rw [if_f hb0] at hp
    obtain ⟨v2, hv2, hp⟩ := bind_eq hp
    obtain ⟨v3, hv3, hp⟩ := bind_eq hp
    obtain ⟨v4, hv4, hp⟩ := bind_eq hp
    obtain ⟨v5, hv5, hp⟩ := bind_eq hp
    obtain ⟨ee0, hee0, hp⟩ := bind_eq hp
    simp (maxSteps := 2000000) (disch := first|omega|(simp only[ls];first|done|omega)) only [E, hb0, hv2, hv3, hv4, hv5, gm]
    refine W_loopP 0 (fun s t h => match s with | (s6, s7, s8) => t 3 = .i (.sl 6 (s7.map enc)) ∧ t 4 = .i (.sl 6 (s8.map enc)) ∧ t 5 = .hsl 1 (s6.length * 6) 0 6 true s6.length ∧ getCells h 1 (s6.length * 6) = some (rows (s6 : List TLOp)) ∧ 1 < h.length) (RK [.tmp 2] (Tells true)) ?_ hee0 ?_ ?_
    · rintro ⟨s6, s7, s8⟩ ee tt1 hh1 ⟨ftt1_0, ftt1_1, ftt1_2, ftt1_3, ftt1_4⟩ hp
      rw [p_spec_l04Sort_l0] at hp
      by_cases hb9 : (decide (0 < (s7.length : Int))) = true
      · rw [if_t hb9] at hp
        by_cases hb10 : (decide ((s8.length : Int) = 0)) = true
        · rw [if_t hb10] at hp
          obtain ⟨v11, hv11, hp⟩ := bind_eq hp
          obtain ⟨v12, hv12, hp⟩ := bind_eq hp
          obtain ⟨kv12, qv12, lv12⟩ := app_some hv12
          have rv12 : rows s6 ++ [.i (.s (.int .i64 v11.kind)), .i (.s (.int .i64 v11.char)), .i (.s (.int .i64 v11.id.time)), .i (.s (.int .i64 v11.id.actor)), .i (.s (.int .i64 v11.at_.time)), .i (.s (.int .i64 v11.at_.actor))] = rows v12 := by rw [qv12, rows_append]; rfl
          have mv12 : s6.length + 1 = v12.length := by simp at lv12; omega
          have nv12 : (s6.length + 1) * 48 ≤ 140737488355328 := by simp at kv12; omega
          obtain ⟨v13, hv13, hp⟩ := bind_eq hp
          have hp := Option.some.inj hp
          subst hp
          simp (maxSteps := 2000000) (disch := first|omega|(simp only[ls];first|done|omega)) only [E, hb0, hv2, hv3, hv4, hv5, ftt1_0, ftt1_1, ftt1_2, ftt1_3, ftt1_4, hb9, hb10, hv11, hv12, rv12, nv12, hv13, gm] <;> omega
        · replace hb10 := eq_false_of_ne_true hb10
          rw [if_f hb10] at hp
          obtain ⟨v14, hv14, hp⟩ := bind_eq hp
          obtain ⟨v15, hv15, hp⟩ := bind_eq hp
          obtain ⟨v16, hv16, hp⟩ := bind_eq hp
          by_cases hb17 : (v16) = true
          · rw [if_t hb17] at hp
            obtain ⟨v18, hv18, hp⟩ := bind_eq hp
            obtain ⟨kv18, qv18, lv18⟩ := app_some hv18
            have rv18 : rows s6 ++ [.i (.s (.int .i64 v14.kind)), .i (.s (.int .i64 v14.char)), .i (.s (.int .i64 v14.id.time)), .i (.s (.int .i64 v14.id.actor)), .i (.s (.int .i64 v14.at_.time)), .i (.s (.int .i64 v14.at_.actor))] = rows v18 := by rw [qv18, rows_append]; rfl
            have mv18 : s6.length + 1 = v18.length := by simp at lv18; omega
            have nv18 : (s6.length + 1) * 48 ≤ 140737488355328 := by simp at kv18; omega
            obtain ⟨v19, hv19, hp⟩ := bind_eq hp
            have hp := Option.some.inj hp
            subst hp
            simp (maxSteps := 2000000) (disch := first|omega|(simp only[ls];first|done|omega)) only [E, hb0, hv2, hv3, hv4, hv5, ftt1_0, ftt1_1, ftt1_2, ftt1_3, ftt1_4, hb9, hb10, hv14, hv15, hv16, hb17, hv18, rv18, nv18, hv19, gm] <;> omega
          · replace hb17 := eq_false_of_ne_true hb17
            rw [if_f hb17] at hp
            obtain ⟨v20, hv20, hp⟩ := bind_eq hp
            obtain ⟨kv20, qv20, lv20⟩ := app_some hv20
            have rv20 : rows s6 ++ [.i (.s (.int .i64 v15.kind)), .i (.s (.int .i64 v15.char)), .i (.s (.int .i64 v15.id.time)), .i (.s (.int .i64 v15.id.actor)), .i (.s (.int .i64 v15.at_.time)), .i (.s (.int .i64 v15.at_.actor))] = rows v20 := by rw [qv20, rows_append]; rfl
            have mv20 : s6.length + 1 = v20.length := by simp at lv20; omega
            have nv20 : (s6.length + 1) * 48 ≤ 140737488355328 := by simp at kv20; omega
            obtain ⟨v21, hv21, hp⟩ := bind_eq hp
            have hp := Option.some.inj hp
            subst hp
            simp (maxSteps := 2000000) (disch := first|omega|(simp only[ls];first|done|omega)) only [E, hb0, hv2, hv3, hv4, hv5, ftt1_0, ftt1_1, ftt1_2, ftt1_3, ftt1_4, hb9, hb10, hv14, hv15, hv16, hb17, hv20, rv20, nv20, hv21, gm] <;> omega
      · replace hb9 := eq_false_of_ne_true hb9
        rw [if_f hb9] at hp
        by_cases hb22 : (decide (0 < (s8.length : Int))) = true
        · rw [if_t hb22] at hp
          by_cases hb23 : (decide ((s8.length : Int) = 0)) = true
          · rw [if_t hb23] at hp
            obtain ⟨v24, hv24, hp⟩ := bind_eq hp
            obtain ⟨v25, hv25, hp⟩ := bind_eq hp
            obtain ⟨kv25, qv25, lv25⟩ := app_some hv25
            have rv25 : rows s6 ++ [.i (.s (.int .i64 v24.kind)), .i (.s (.int .i64 v24.char)), .i (.s (.int .i64 v24.id.time)), .i (.s (.int .i64 v24.id.actor)), .i (.s (.int .i64 v24.at_.time)), .i (.s (.int .i64 v24.at_.actor))] = rows v25 := by rw [qv25, rows_append]; rfl
            have mv25 : s6.length + 1 = v25.length := by simp at lv25; omega
            have nv25 : (s6.length + 1) * 48 ≤ 140737488355328 := by simp at kv25; omega
            obtain ⟨v26, hv26, hp⟩ := bind_eq hp
            have hp := Option.some.inj hp
            subst hp
            simp (maxSteps := 2000000) (disch := first|omega|(simp only[ls];first|done|omega)) only [E, hb0, hv2, hv3, hv4, hv5, ftt1_0, ftt1_1, ftt1_2, ftt1_3, ftt1_4, hb9, hb22, hb23, hv24, hv25, rv25, nv25, hv26, gm] <;> omega
          · replace hb23 := eq_false_of_ne_true hb23
            rw [if_f hb23] at hp
            obtain ⟨v27, hv27, hp⟩ := bind_eq hp
            obtain ⟨v28, hv28, hp⟩ := bind_eq hp
            obtain ⟨kv28, qv28, lv28⟩ := app_some hv28
            have rv28 : rows s6 ++ [.i (.s (.int .i64 v27.kind)), .i (.s (.int .i64 v27.char)), .i (.s (.int .i64 v27.id.time)), .i (.s (.int .i64 v27.id.actor)), .i (.s (.int .i64 v27.at_.time)), .i (.s (.int .i64 v27.at_.actor))] = rows v28 := by rw [qv28, rows_append]; rfl
            have mv28 : s6.length + 1 = v28.length := by simp at lv28; omega
            have nv28 : (s6.length + 1) * 48 ≤ 140737488355328 := by simp at kv28; omega
            obtain ⟨v29, hv29, hp⟩ := bind_eq hp
            have hp := Option.some.inj hp
            subst hp
            simp (maxSteps := 2000000) (disch := first|omega|(simp only[ls];first|done|omega)) only [E, hb0, hv2, hv3, hv4, hv5, ftt1_0, ftt1_1, ftt1_2, ftt1_3, ftt1_4, hb9, hb22, hb23, hv27, hv28, rv28, nv28, hv29, gm] <;> omega
        · replace hb22 := eq_false_of_ne_true hb22
          rw [if_f hb22] at hp
          have hp := Option.some.inj hp
          subst hp
          simp (maxSteps := 2000000) (disch := first|omega|(simp only[ls];first|done|omega)) only [E, hb0, hv2, hv3, hv4, hv5, ftt1_0, ftt1_1, ftt1_2, ftt1_3, ftt1_4, hb9, hb22, gm] <;> omega
    · simp (maxSteps := 2000000) (disch := first|omega|(simp only[ls];first|done|omega)) only [E, hb0, hv2, hv3, hv4, hv5, gm] <;> omega
    · intro x tt2 hh2 hx
      rcases ee0 with ⟨o30, o31, o32⟩ | r
      · obtain ⟨rfl, ftt2_0, ftt2_1, ftt2_2, ftt2_3, ftt2_4⟩ := hx
        dsimp only at hp
        have hp := Option.some.inj hp
        subst hp
        simp (maxSteps := 2000000) (disch := first|omega|(simp only[ls];first|done|omega)) only [E, hb0, hv2, hv3, hv4, hv5, ftt2_0, ftt2_1, ftt2_2, ftt2_3, ftt2_4, gm]
      · obtain ⟨rfl, hx⟩ := hx
        dsimp only at hp
        cases hp
        simp only [seqK_ret, blockK_ret, retK_RK (K := Tells true), hx, and_self, true_and]

noncomputable def p_spec_l04Clean_l0 (x0 : List TLOp) : Int → Option (Lp (Int) (T2 (List TLOp) Int))
  | s1 =>
    if (decide (s1 < (x0.length : Int))) = true then
      (get? x0 s1).bind fun v3 =>
      (p_spec_l04OpOK v3).bind fun v4 =>
      if (v4) = true then
        some (.go (w64 (s1 + 1)))
      else
        some (.ret ⟨[], 1⟩)
    else
      some (.out s1)
noncomputable def p_spec_l04Clean_l1 (v7 : List TLOp) : List TLOp × Int → Option (Lp (List TLOp × Int) (T2 (List TLOp) Int))
  | (s8, s9) =>
    if (decide (s9 < (v7.length : Int))) = true then
      if (decide (0 < (s8.length : Int))) = true then
        (get? s8 (w64 ((s8.length : Int) - 1))).bind fun v12 =>
        (get? v7 s9).bind fun v14 =>
        if ((decide (v12.id.time = v14.id.time) && decide (v12.id.actor = v14.id.actor))) = true then
          if ((decide (v12.kind = v14.kind) && (decide (v12.char = v14.char) && (decide (v12.id.time = v14.id.time) && (decide (v12.id.actor = v14.id.actor) && (decide (v12.at_.time = v14.at_.time) && decide (v12.at_.actor = v14.at_.actor))))))) = true then
            some (.go (s8, w64 (s9 + 1)))
          else
            some (.ret ⟨[], 16⟩)
        else
          (app? 48 s8 ([v14])).bind fun v18 =>
          some (.go (v18, w64 (s9 + 1)))
      else
        (get? v7 s9).bind fun v19 =>
        (app? 48 s8 ([v19])).bind fun v20 =>
        some (.go (v20, w64 (s9 + 1)))
    else
      some (.out (s8, s9))
noncomputable def p_spec_l04Clean_l2 (o21 : List TLOp) : Int → Option (Lp (Int) (T2 (List TLOp) Int))
  | s23 =>
    if (decide (s23 < (o21.length : Int))) = true then
      (get? o21 s23).bind fun v25 =>
      (p_spec_l02None v25.at_).bind fun v27 =>
      if (v27) = true then
        some (.go (w64 (s23 + 1)))
      else
        (p_spec_l04Has o21 v25.at_).bind fun v30 =>
        if (v30) = true then
          some (.go (w64 (s23 + 1)))
        else
          some (.ret ⟨[], 5⟩)
    else
      some (.out s23)
noncomputable def p_spec_l04Clean (x0 : List TLOp) : Option (T2 (List TLOp) Int) :=
  if (decide (2048 < (x0.length : Int))) = true then
    some ⟨[], 2⟩
  else
    (loopP (p_spec_l04Clean_l0 x0) 0).bind fun ee0 => match ee0 with
    | .ret r => some r
    | .out o6 =>
      (p_spec_l04Sort x0).bind fun v7 =>
      (loopP (p_spec_l04Clean_l1 v7) (([] : List TLOp), 0)).bind fun ee1 => match ee1 with
      | .ret r => some r
      | .out (o21, o22) =>
        (loopP (p_spec_l04Clean_l2 o21) 0).bind fun ee2 => match ee2 with
        | .ret r => some r
        | .out o32 =>
          some ⟨o21, 0⟩
def c_spec_l04Clean (f_spec_l04OpOK : Nat) (f_spec_l04Sort : Nat) (f_spec_l02None : Nat) (f_spec_l04Has : Nat) : AFn := ⟨97, (.seq (.ops [(qS 2 (.vnil 6 true)), (qS 3 (.mv (ic 0)))]) (.seq (.seq (.ops [(qS 10 (.mv (.tmp 0))), (qS 11 (.len (.tmp 10))), (qS 12 (.pu (.n (.ar .gtr)) [(.tmp 11), (ic 2048)]))]) (.cond (.tmp 12) (.seq (.ops [(qS 13 (.buildSl 6 true 0 [(.int .i64 0), (.int .i64 0), (.int .i64 0), (.int .i64 0), (.int .i64 0), (.int .i64 0)] [])), (qS 2 (.mv (.tmp 13))), (qS 3 (.mv (ic 2)))]) .ret) .skip)) (.seq (.seq (.ops [(qS 4 (.mv (ic 0)))]) (.block 0 (.loop (.seq (.seq (.ops [(qS 14 (.mv (.tmp 4))), (qS 15 (.mv (.tmp 0))), (qS 16 (.len (.tmp 15))), (qS 17 (.pu (.n (.ar .lss)) [(.tmp 14), (.tmp 16)]))]) (.cond (.tmp 17) .skip (.exit 0))) (.seq (.block 1 (.seq (.ops [(qS 20 (.mv (.tmp 0))), (qS 21 (.mv (.tmp 4))), (qS 22 (.idxS 6 (.tmp 20) (.tmp 21))), (qS 23 (.load 6 true (.tmp 22))), (qS 24 (.call (2 * f_spec_l04OpOK) [(.tmp 23)])), (qS 25 (.pu (.n (.un .not)) [(.tmp 24)]))]) (.cond (.tmp 25) (.seq (.ops [(qS 26 (.buildSl 6 true 0 [(.int .i64 0), (.int .i64 0), (.int .i64 0), (.int .i64 0), (.int .i64 0), (.int .i64 0)] [])), (qS 2 (.mv (.tmp 26))), (qS 3 (.mv (ic 1)))]) .ret) .skip))) (.ops [(qS 18 (.mv (.tmp 4))), (qS 19 (.pu (.n (.ar .add)) [(.tmp 18), (ic 1)])), (qS 4 (.mv (.tmp 19)))])))))) (.seq (.ops [(qS 27 (.mv (.tmp 0))), (qS 28 (.call (2 * f_spec_l04Sort) [(.tmp 27)])), (qS 5 (.mv (.tmp 28)))]) (.seq (.ops [(qS 29 (.buildSl 6 true 0 [(.int .i64 0), (.int .i64 0), (.int .i64 0), (.int .i64 0), (.int .i64 0), (.int .i64 0)] [])), (qS 6 (.mv (.tmp 29)))]) (.seq (.seq (.ops [(qS 7 (.mv (ic 0)))]) (.block 2 (.loop (.seq (.seq (.ops [(qS 30 (.mv (.tmp 7))), (qS 31 (.mv (.tmp 5))), (qS 32 (.len (.tmp 31))), (qS 33 (.pu (.n (.ar .lss)) [(.tmp 30), (.tmp 32)]))]) (.cond (.tmp 33) .skip (.exit 2))) (.seq (.block 3 (.seq (.ops [(qS 36 (.mv (.tmp 6))), (qS 37 (.len (.tmp 36))), (qS 8 (.mv (.tmp 37)))]) (.seq (.seq (.ops [(qS 38 (.mv (.tmp 8))), (qS 39 (.pu (.n (.ar .gtr)) [(.tmp 38), (ic 0)])), (qS 40 (.mv (.tmp 39))), ⟨(.some 41), (.mv (.tmp 6)), (.some (40, true)), [], .none⟩, ⟨(.some 42), (.mv (.tmp 8)), (.some (40, true)), [], .none⟩, ⟨(.some 43), (.pu (.n (.ar .sub)) [(.tmp 42), (ic 1)]), (.some (40, true)), [], .none⟩, ⟨(.some 44), (.idxS 6 (.tmp 41) (.tmp 43)), (.some (40, true)), [], .none⟩, ⟨(.some 45), (.fieldA 2 (.tmp 44)), (.some (40, true)), [], .none⟩, ⟨(.some 46), (.load 2 true (.tmp 45)), (.some (40, true)), [], .none⟩, ⟨(.some 47), (.mv (.tmp 5)), (.some (40, true)), [], .none⟩, ⟨(.some 48), (.mv (.tmp 7)), (.some (40, true)), [], .none⟩, ⟨(.some 49), (.idxS 6 (.tmp 47) (.tmp 48)), (.some (40, true)), [], .none⟩, ⟨(.some 50), (.fieldA 2 (.tmp 49)), (.some (40, true)), [], .none⟩, ⟨(.some 51), (.load 2 true (.tmp 50)), (.some (40, true)), [], .none⟩, ⟨(.some 52), (.aeq false [(.int .i64), (.int .i64)] (.tmp 46) (.tmp 51)), (.some (40, true)), [], .none⟩, (qS 53 (.pick (.tmp 40) (.tmp 52) (.const (.bool false))))]) (.cond (.tmp 53) (.seq (.seq (.ops [(qS 54 (.mv (.tmp 6))), (qS 55 (.mv (.tmp 8))), (qS 56 (.pu (.n (.ar .sub)) [(.tmp 55), (ic 1)])), (qS 57 (.idxS 6 (.tmp 54) (.tmp 56))), (qS 58 (.load 6 true (.tmp 57))), (qS 59 (.mv (.tmp 5))), (qS 60 (.mv (.tmp 7))), (qS 61 (.idxS 6 (.tmp 59) (.tmp 60))), (qS 62 (.load 6 true (.tmp 61))), (qS 63 (.aeq true [(.int .i64), (.int .i64), (.int .i64), (.int .i64), (.int .i64), (.int .i64)] (.tmp 58) (.tmp 62)))]) (.cond (.tmp 63) (.seq (.ops [(qS 64 (.buildSl 6 true 0 [(.int .i64 0), (.int .i64 0), (.int .i64 0), (.int .i64 0), (.int .i64 0), (.int .i64 0)] [])), (qS 2 (.mv (.tmp 64))), (qS 3 (.mv (ic 16)))]) .ret) .skip)) (.exit 3)) .skip)) (.ops [(qS 65 (.mv (.tmp 6))), (qS 66 (.mv (.tmp 5))), (qS 67 (.mv (.tmp 7))), (qS 68 (.idxS 6 (.tmp 66) (.tmp 67))), (qS 69 (.load 6 true (.tmp 68))), (qS 70 (.buildSl 6 true 1 [(.int .i64 0), (.int .i64 0), (.int .i64 0), (.int .i64 0), (.int .i64 0), (.int .i64 0)] [(0, (.tmp 69))])), (qS 71 (.append 6 true 48 (.tmp 65) (.tmp 70))), (qS 6 (.mv (.tmp 71)))])))) (.ops [(qS 34 (.mv (.tmp 7))), (qS 35 (.pu (.n (.ar .add)) [(.tmp 34), (ic 1)])), (qS 7 (.mv (.tmp 35)))])))))) (.seq (.seq (.ops [(qS 9 (.mv (ic 0)))]) (.block 4 (.loop (.seq (.seq (.ops [(qS 72 (.mv (.tmp 9))), (qS 73 (.mv (.tmp 6))), (qS 74 (.len (.tmp 73))), (qS 75 (.pu (.n (.ar .lss)) [(.tmp 72), (.tmp 74)]))]) (.cond (.tmp 75) .skip (.exit 4))) (.seq (.block 5 (.seq (.ops [(qS 78 (.mv (.tmp 6))), (qS 79 (.mv (.tmp 9))), (qS 80 (.idxS 6 (.tmp 78) (.tmp 79))), (qS 81 (.fieldA 4 (.tmp 80))), (qS 82 (.load 2 true (.tmp 81))), (qS 83 (.call (2 * f_spec_l02None) [(.tmp 82)])), (qS 84 (.pu (.n (.un .not)) [(.tmp 83)])), (qS 85 (.mv (.tmp 84))), ⟨(.some 86), (.mv (.tmp 6)), (.some (85, true)), [], .none⟩, ⟨(.some 87), (.mv (.tmp 6)), (.some (85, true)), [], .none⟩, ⟨(.some 88), (.mv (.tmp 9)), (.some (85, true)), [], .none⟩, ⟨(.some 89), (.idxS 6 (.tmp 87) (.tmp 88)), (.some (85, true)), [], .none⟩, ⟨(.some 90), (.fieldA 4 (.tmp 89)), (.some (85, true)), [], .none⟩, ⟨(.some 91), (.load 2 true (.tmp 90)), (.some (85, true)), [], .none⟩, ⟨(.some 92), (.call (2 * f_spec_l04Has) [(.tmp 86), (.tmp 91)]), (.some (85, true)), [], .none⟩, ⟨(.some 93), (.pu (.n (.un .not)) [(.tmp 92)]), (.some (85, true)), [], .none⟩, (qS 94 (.pick (.tmp 85) (.tmp 93) (.const (.bool false))))]) (.cond (.tmp 94) (.seq (.ops [(qS 95 (.buildSl 6 true 0 [(.int .i64 0), (.int .i64 0), (.int .i64 0), (.int .i64 0), (.int .i64 0), (.int .i64 0)] [])), (qS 2 (.mv (.tmp 95))), (qS 3 (.mv (ic 5)))]) .ret) .skip))) (.ops [(qS 76 (.mv (.tmp 9))), (qS 77 (.pu (.n (.ar .add)) [(.tmp 76), (ic 1)])), (qS 9 (.mv (.tmp 77)))])))))) (.seq (.ops [(qS 96 (.mv (.tmp 6))), (qS 2 (.mv (.tmp 96))), (qS 3 (.mv (ic 0)))]) .ret)))))))), [(.tmp 2), (.tmp 3)]⟩
set_option maxHeartbeats 10000000 in
theorem d_spec_l04Clean {P : Program} {env : Env} {f_spec_l04OpOK : Nat} {f_spec_l04Sort : Nat} {f_spec_l02None : Nat} {f_spec_l04Has : Nat}  (ep_spec_l04OpOK : env (2 * f_spec_l04OpOK) = pureFn true (FA fun a : TLOp => p_spec_l04OpOK a)) (ep_spec_l04Sort : env (2 * f_spec_l04Sort) = pureFn true (FA fun a : List TLOp => p_spec_l04Sort a)) (ep_spec_l02None : env (2 * f_spec_l02None) = pureFn true (FA fun a : TStamp => p_spec_l02None a)) (ep_spec_l04Has : env (2 * f_spec_l04Has) = pureFn true (FA fun a : List TLOp × TStamp => p_spec_l04Has a.1 a.2)) (x0 : List TLOp) {b : T2 (List TLOp) Int} (hp : p_spec_l04Clean x0 = some b) : R P env (c_spec_l04Clean f_spec_l04OpOK f_spec_l04Sort f_spec_l02None f_spec_l04Has) ((encA (x0)).map ofI) [] (Tells true b) := by
  refine R_of (by simp [c_spec_l04Clean, encA]) ?_
  have E := And.intro ep_spec_l04OpOK (And.intro ep_spec_l04Sort (And.intro ep_spec_l02None ep_spec_l04Has))
  unfold c_spec_l04Clean
  unfold p_spec_l04Clean at hp
  by_cases hb0 : (decide (2048 < (x0.length : Int))) = true
  · rw [if_t hb0] at hp
    have hp := Option.some.inj hp
    subst hp
    simp (maxSteps := 2000000) (disch := first|omega|(simp only[ls];first|done|omega)) only [E, hb0, gm]
  · replace hb0 := eq_false_of_ne_true hb0
    rw [if_f hb0] at hp
    obtain ⟨ee0, hee0, hp⟩ := bind_eq hp
    simp (maxSteps := 2000000) (disch := first|omega|(simp only[ls];first|done|omega)) only [E, hb0, gm]
    refine W_loopP 0 (fun s t h => match s with | s1 => t 0 = .i (.sl 6 (x0.map enc)) ∧ t 4 = .i (.s (.int .i64 s1))) (RK [.tmp 2, .tmp 3] (Tells true)) ?_ hee0 ?_ ?_
    · rintro s1 ee tt0 hh0 ⟨ftt0_0, ftt0_1⟩ hp
      rw [p_spec_l04Clean_l0] at hp
      by_cases hb2 : (decide (s1 < (x0.length : Int))) = true
      · rw [if_t hb2] at hp
        obtain ⟨v3, hv3, hp⟩ := bind_eq hp
        obtain ⟨v4, hv4, hp⟩ := bind_eq hp
        by_cases hb5 : (v4) = true
        · rw [if_t hb5] at hp
          have hp := Option.some.inj hp
          subst hp
          simp (maxSteps := 2000000) (disch := first|omega|(simp only[ls];first|done|omega)) only [E, hb0, ftt0_0, ftt0_1, hb2, hv3, hv4, hb5, gm] <;> omega
        · replace hb5 := eq_false_of_ne_true hb5
          rw [if_f hb5] at hp
          have hp := Option.some.inj hp
          subst hp
          simp (maxSteps := 2000000) (disch := first|omega|(simp only[ls];first|done|omega)) only [E, hb0, ftt0_0, ftt0_1, hb2, hv3, hv4, hb5, gm]
      · replace hb2 := eq_false_of_ne_true hb2
        rw [if_f hb2] at hp
        have hp := Option.some.inj hp
        subst hp
        simp (maxSteps := 2000000) (disch := first|omega|(simp only[ls];first|done|omega)) only [E, hb0, ftt0_0, ftt0_1, hb2, gm] <;> omega
    · simp (maxSteps := 2000000) (disch := first|omega|(simp only[ls];first|done|omega)) only [E, hb0, gm] <;> omega
    · intro x tt1 hh1 hx
      rcases ee0 with o6 | r
      · obtain ⟨rfl, ftt1_0, ftt1_1⟩ := hx
        dsimp only at hp
        obtain ⟨v7, hv7, hp⟩ := bind_eq hp
        obtain ⟨ee1, hee1, hp⟩ := bind_eq hp
        simp (maxSteps := 2000000) (disch := first|omega|(simp only[ls];first|done|omega)) only [E, hb0, ftt1_0, ftt1_1, hv7, gm]
        refine W_loopP 2 (fun s t h => match s with | (s8, s9) => t 5 = .i (.sl 6 (v7.map enc)) ∧ t 6 = .hsl hh1.length (s8.length * 6) 0 6 true s8.length ∧ t 7 = .i (.s (.int .i64 s9)) ∧ getCells h hh1.length (s8.length * 6) = some (rows (s8 : List TLOp)) ∧ hh1.length < h.length) (RK [.tmp 2, .tmp 3] (Tells true)) ?_ hee1 ?_ ?_
        · rintro ⟨s8, s9⟩ ee tt2 hh2 ⟨ftt2_0, ftt2_1, ftt2_2, ftt2_3, ftt2_4⟩ hp
          rw [p_spec_l04Clean_l1] at hp
          by_cases hb10 : (decide (s9 < (v7.length : Int))) = true
          · rw [if_t hb10] at hp
            by_cases hb11 : (decide (0 < (s8.length : Int))) = true
            · rw [if_t hb11] at hp
              obtain ⟨v12, hv12, hp⟩ := bind_eq hp
              have gv12 := get_some hv12
              have hl13 : List.take 2 (List.drop (((w64 ((s8.length : Int) - 1)).toNat) * 6 + 2) (rows s8)) = [.i (.s (.int .i64 v12.id.time)), .i (.s (.int .i64 v12.id.actor))] := by simpa [zs, cellsV, I.cells, enc_TLOp] using rows_get_off (k := 2) (m := 2) gv12.2.2 (Nat.le_of_ble_eq_true rfl)
              obtain ⟨v14, hv14, hp⟩ := bind_eq hp
              by_cases hb15 : ((decide (v12.id.time = v14.id.time) && decide (v12.id.actor = v14.id.actor))) = true
              · rw [if_t hb15] at hp
                have hl16 : List.take 6 (List.drop (((w64 ((s8.length : Int) - 1)).toNat) * 6) (rows s8)) = [.i (.s (.int .i64 v12.kind)), .i (.s (.int .i64 v12.char)), .i (.s (.int .i64 v12.id.time)), .i (.s (.int .i64 v12.id.actor)), .i (.s (.int .i64 v12.at_.time)), .i (.s (.int .i64 v12.at_.actor))] := by simpa [zs, cellsV, I.cells, enc_TLOp] using rows_get_off (k := 0) (m := 6) gv12.2.2 (Nat.le_of_ble_eq_true rfl)
                by_cases hb17 : ((decide (v12.kind = v14.kind) && (decide (v12.char = v14.char) && (decide (v12.id.time = v14.id.time) && (decide (v12.id.actor = v14.id.actor) && (decide (v12.at_.time = v14.at_.time) && decide (v12.at_.actor = v14.at_.actor))))))) = true
                · rw [if_t hb17] at hp
                  have hp := Option.some.inj hp
                  subst hp
                  simp (maxSteps := 2000000) (disch := first|omega|(simp only[ls];first|done|omega)) only [E, hb0, ftt1_0, ftt1_1, hv7, ftt2_0, ftt2_1, ftt2_2, ftt2_3, ftt2_4, hb10, hb11, hv12, (gv12).1, (gv12).2.1, hl13, hv14, hb15, hl16, hb17, gm] <;> omega
                · replace hb17 := eq_false_of_ne_true hb17
                  rw [if_f hb17] at hp
                  have hp := Option.some.inj hp
                  subst hp
                  simp (maxSteps := 2000000) (disch := first|omega|(simp only[ls];first|done|omega)) only [E, hb0, ftt1_0, ftt1_1, hv7, ftt2_0, ftt2_1, ftt2_2, ftt2_3, ftt2_4, hb10, hb11, hv12, (gv12).1, (gv12).2.1, hl13, hv14, hb15, hl16, hb17, gm]
              · replace hb15 := eq_false_of_ne_true hb15
                rw [if_f hb15] at hp
                obtain ⟨v18, hv18, hp⟩ := bind_eq hp
                obtain ⟨kv18, qv18, lv18⟩ := app_some hv18
                have rv18 : rows s8 ++ [.i (.s (.int .i64 v14.kind)), .i (.s (.int .i64 v14.char)), .i (.s (.int .i64 v14.id.time)), .i (.s (.int .i64 v14.id.actor)), .i (.s (.int .i64 v14.at_.time)), .i (.s (.int .i64 v14.at_.actor))] = rows v18 := by rw [qv18, rows_append]; rfl
                have mv18 : s8.length + 1 = v18.length := by simp at lv18; omega
                have nv18 : (s8.length + 1) * 48 ≤ 140737488355328 := by simp at kv18; omega
                have hp := Option.some.inj hp
                subst hp
                simp (maxSteps := 2000000) (disch := first|omega|(simp only[ls];first|done|omega)) only [E, hb0, ftt1_0, ftt1_1, hv7, ftt2_0, ftt2_1, ftt2_2, ftt2_3, ftt2_4, hb10, hb11, hv12, (gv12).1, (gv12).2.1, hl13, hv14, hb15, hv18, rv18, nv18, gm] <;> omega
            · replace hb11 := eq_false_of_ne_true hb11
              rw [if_f hb11] at hp
              obtain ⟨v19, hv19, hp⟩ := bind_eq hp
              obtain ⟨v20, hv20, hp⟩ := bind_eq hp
              obtain ⟨kv20, qv20, lv20⟩ := app_some hv20
              have rv20 : rows s8 ++ [.i (.s (.int .i64 v19.kind)), .i (.s (.int .i64 v19.char)), .i (.s (.int .i64 v19.id.time)), .i (.s (.int .i64 v19.id.actor)), .i (.s (.int .i64 v19.at_.time)), .i (.s (.int .i64 v19.at_.actor))] = rows v20 := by rw [qv20, rows_append]; rfl
              have mv20 : s8.length + 1 = v20.length := by simp at lv20; omega
              have nv20 : (s8.length + 1) * 48 ≤ 140737488355328 := by simp at kv20; omega
              have hp := Option.some.inj hp
              subst hp
              simp (maxSteps := 2000000) (disch := first|omega|(simp only[ls];first|done|omega)) only [E, hb0, ftt1_0, ftt1_1, hv7, ftt2_0, ftt2_1, ftt2_2, ftt2_3, ftt2_4, hb10, hb11, hv19, hv20, rv20, nv20, gm] <;> omega
          · replace hb10 := eq_false_of_ne_true hb10
            rw [if_f hb10] at hp
            have hp := Option.some.inj hp
            subst hp
            simp (maxSteps := 2000000) (disch := first|omega|(simp only[ls];first|done|omega)) only [E, hb0, ftt1_0, ftt1_1, hv7, ftt2_0, ftt2_1, ftt2_2, ftt2_3, ftt2_4, hb10, gm] <;> omega
        · simp (maxSteps := 2000000) (disch := first|omega|(simp only[ls];first|done|omega)) only [E, hb0, ftt1_0, ftt1_1, hv7, gm] <;> omega
        · intro x tt3 hh3 hx
          rcases ee1 with ⟨o21, o22⟩ | r
          · obtain ⟨rfl, ftt3_0, ftt3_1, ftt3_2, ftt3_3, ftt3_4⟩ := hx
            dsimp only at hp
            obtain ⟨ee2, hee2, hp⟩ := bind_eq hp
            simp (maxSteps := 2000000) (disch := first|omega|(simp only[ls];first|done|omega)) only [E, hb0, ftt1_0, ftt1_1, hv7, ftt3_0, ftt3_1, ftt3_2, ftt3_3, ftt3_4, gm]
            refine W_loopP 4 (fun s t h => match s with | s23 => t 6 = .hsl hh1.length (o21.length * 6) 0 6 true o21.length ∧ t 9 = .i (.s (.int .i64 s23)) ∧ getCells h hh1.length (o21.length * 6) = some (rows (o21 : List TLOp)) ∧ hh1.length < h.length) (RK [.tmp 2, .tmp 3] (Tells true)) ?_ hee2 ?_ ?_
            · rintro s23 ee tt4 hh4 ⟨ftt4_0, ftt4_1, ftt4_2, ftt4_3⟩ hp
              rw [p_spec_l04Clean_l2] at hp
              by_cases hb24 : (decide (s23 < (o21.length : Int))) = true
              · rw [if_t hb24] at hp
                obtain ⟨v25, hv25, hp⟩ := bind_eq hp
                have gv25 := get_some hv25
                have hl26 : List.take 2 (List.drop (s23.toNat * 6 + 4) (rows o21)) = [.i (.s (.int .i64 v25.at_.time)), .i (.s (.int .i64 v25.at_.actor))] := by simpa [zs, cellsV, I.cells, enc_TLOp] using rows_get_off (k := 4) (m := 2) gv25.2.2 (Nat.le_of_ble_eq_true rfl)
                obtain ⟨v27, hv27, hp⟩ := bind_eq hp
                by_cases hb28 : (v27) = true
                · rw [if_t hb28] at hp
                  have hp := Option.some.inj hp
                  subst hp
                  simp (maxSteps := 2000000) (disch := first|omega|(simp only[ls];first|done|omega)) only [E, hb0, ftt1_0, ftt1_1, hv7, ftt3_0, ftt3_1, ftt3_2, ftt3_3, ftt3_4, ftt4_0, ftt4_1, ftt4_2, ftt4_3, hb24, hv25, (gv25).1, (gv25).2.1, hl26, hv27, hb28, gm] <;> omega
                · replace hb28 := eq_false_of_ne_true hb28
                  rw [if_f hb28] at hp
                  have hl29 : List.take 2 (List.drop (s23.toNat * 6 + 4) (rows o21)) = [.i (.s (.int .i64 v25.at_.time)), .i (.s (.int .i64 v25.at_.actor))] := by simpa [zs, cellsV, I.cells, enc_TLOp] using rows_get_off (k := 4) (m := 2) gv25.2.2 (Nat.le_of_ble_eq_true rfl)
                  obtain ⟨v30, hv30, hp⟩ := bind_eq hp
                  by_cases hb31 : (v30) = true
                  · rw [if_t hb31] at hp
                    have hp := Option.some.inj hp
                    subst hp
                    simp (maxSteps := 2000000) (disch := first|omega|(simp only[ls];first|done|omega)) only [E, hb0, ftt1_0, ftt1_1, hv7, ftt3_0, ftt3_1, ftt3_2, ftt3_3, ftt3_4, ftt4_0, ftt4_1, ftt4_2, ftt4_3, hb24, hv25, (gv25).1, (gv25).2.1, hl26, hv27, hb28, hl29, hv30, hb31, gm] <;> omega
                  · replace hb31 := eq_false_of_ne_true hb31
                    rw [if_f hb31] at hp
                    have hp := Option.some.inj hp
                    subst hp
                    simp (maxSteps := 2000000) (disch := first|omega|(simp only[ls];first|done|omega)) only [E, hb0, ftt1_0, ftt1_1, hv7, ftt3_0, ftt3_1, ftt3_2, ftt3_3, ftt3_4, ftt4_0, ftt4_1, ftt4_2, ftt4_3, hb24, hv25, (gv25).1, (gv25).2.1, hl26, hv27, hb28, hl29, hv30, hb31, gm]
              · replace hb24 := eq_false_of_ne_true hb24
                rw [if_f hb24] at hp
                have hp := Option.some.inj hp
                subst hp
                simp (maxSteps := 2000000) (disch := first|omega|(simp only[ls];first|done|omega)) only [E, hb0, ftt1_0, ftt1_1, hv7, ftt3_0, ftt3_1, ftt3_2, ftt3_3, ftt3_4, ftt4_0, ftt4_1, ftt4_2, ftt4_3, hb24, gm] <;> omega
            · simp (maxSteps := 2000000) (disch := first|omega|(simp only[ls];first|done|omega)) only [E, hb0, ftt1_0, ftt1_1, hv7, ftt3_0, ftt3_1, ftt3_2, ftt3_3, ftt3_4, gm] <;> omega
            · intro x tt5 hh5 hx
              rcases ee2 with o32 | r
              · obtain ⟨rfl, ftt5_0, ftt5_1, ftt5_2, ftt5_3⟩ := hx
                dsimp only at hp
                have hp := Option.some.inj hp
                subst hp
                simp (maxSteps := 2000000) (disch := first|omega|(simp only[ls];first|done|omega)) only [E, hb0, ftt1_0, ftt1_1, hv7, ftt3_0, ftt3_1, ftt3_2, ftt3_3, ftt3_4, ftt5_0, ftt5_1, ftt5_2, ftt5_3, gm]
              · obtain ⟨rfl, hx⟩ := hx
                dsimp only at hp
                cases hp
                simp only [seqK_ret, blockK_ret, retK_RK (K := Tells true), hx, and_self, true_and]
          · obtain ⟨rfl, hx⟩ := hx
            dsimp only at hp
            cases hp
            simp only [seqK_ret, blockK_ret, retK_RK (K := Tells true), hx, and_self, true_and]
      · obtain ⟨rfl, hx⟩ := hx
        dsimp only at hp
        cases hp
        simp only [seqK_ret, blockK_ret, retK_RK (K := Tells true), hx, and_self, true_and]

end Go.AM

set_option linter.unusedVariables false
set_option linter.unusedSimpArgs false
set_option maxRecDepth 20000
namespace Go.AM
open Pic (enc dec dec_enc dec_sub)
open PicA (encA decA decA_encA decA_sub)

theorem q_stOKl (x : TStamp) : p_impl_StampOK x = some (stOK x) := by
  unfold p_impl_StampOK p_impl_isActor stOK
  simp only [decide_eq_true_eq]
  repeat' split
  all_goals simp only [Option.bind_some, Option.some.injEq]
  all_goals (symm; first | (rw [decide_eq_false_iff_not]; omega) | (apply decide_eq_decide.2; omega))
theorem q_lessl (x y : TStamp) : p_impl_StampLess x y = some (ltS x y) := by
  unfold p_impl_StampLess ltS
  simp only [decide_eq_true_eq]
  repeat' split
  all_goals (simp only [Option.some.injEq]; symm; first | (rw [decide_eq_false_iff_not]; omega) | (rw [decide_eq_true_eq]; omega) | (apply decide_eq_decide.2; omega))
theorem q_chOK (c : Int) : p_impl_charOK c = some (chOK c) := by
  unfold p_impl_charOK chOK
  simp only [decide_eq_true_eq]
  repeat' split
  all_goals (simp only [Option.some.injEq]; symm; first | (rw [decide_eq_false_iff_not]; omega) | (rw [decide_eq_true_eq]; omega) | (apply decide_eq_decide.2; omega))
theorem st0_iff {s : TStamp} : (decide (s.time = 0) && decide (s.actor = 0)) = decide (s = ⟨0, 0⟩) := by
  cases s
  rw [← Bool.decide_and]
  apply decide_eq_decide.2
  simp
theorem q_lopK (x : TLOp) : p_impl_lopOK x = some (lopK x) := by
  unfold p_impl_lopOK lopK
  simp only [q_stOKl, q_lessl, q_chOK, Option.bind_some, st0_iff, decide_eq_true_eq]
  cases stOK x.id <;> cases stOK x.at_ <;> cases ltS x.at_ x.id <;> cases chOK x.char <;> by_cases h1 : x.kind = 1 <;> by_cases h2 : x.kind = 2 <;> by_cases h3 : x.char = 0 <;> simp [h1, h2, h3]

noncomputable def p_impl_readList_1 (x0 x1 : Int) (x2 : PtrL TLOp) : Option Bool := (get? x2.l x0).bind fun x => (get? x2.l x1).bind fun y => p_impl_StampLess x.id y.id
theorem enc_plL {p : PtrL TLOp} : enc p = .ip [.sl 6 (p.l.map enc)] := rfl

def c_impl_readList_1 (f_impl_StampLess : Nat) : AFn := ⟨17, (.seq (.ops [(qS 5 (.mv (.const (.bool false))))]) (.seq (.ops [(qS 6 (.load 1 false (.tmp 2))), (qS 7 (.mv (.tmp 0))), (qS 8 (.idxS 6 (.tmp 6) (.tmp 7))), (qS 9 (.fieldA 2 (.tmp 8))), (qS 10 (.load 2 true (.tmp 9))), (qS 11 (.load 1 false (.tmp 2))), (qS 12 (.mv (.tmp 1))), (qS 13 (.idxS 6 (.tmp 11) (.tmp 12))), (qS 14 (.fieldA 2 (.tmp 13))), (qS 15 (.load 2 true (.tmp 14))), (qS 16 (.call (2 * f_impl_StampLess) [(.tmp 10), (.tmp 15)])), (qS 5 (.mv (.tmp 16)))]) .ret)), [(.tmp 5)]⟩

theorem d_impl_readList_1 {P : Program} {env : Env} {f_impl_StampLess : Nat} (ep_impl_StampLess : env (2 * f_impl_StampLess) = pureFn true (FA fun a : TStamp × TStamp => p_impl_StampLess a.1 a.2)) (x0 x1 : Int) (x2 : PtrL TLOp) {b : Bool} (hp : p_impl_readList_1 x0 x1 x2 = some b) : R P env (c_impl_readList_1 f_impl_StampLess) ((encA (x0, x1, x2)).map ofI) [] (Tells true b) := by
  refine R_of (by simp [c_impl_readList_1, encA]) ?_
  unfold c_impl_readList_1
  obtain ⟨x, h1, hp⟩ := Option.bind_eq_some_iff.1 hp
  obtain ⟨y, h2, hp⟩ := Option.bind_eq_some_iff.1 hp
  simp (maxSteps := 2000000) (disch := omega) only [gw, Nat.reduceAdd, Nat.reduceMul, enc_plL, h1, h2, enc_TLOp, ep_impl_StampLess, hp]
theorem less_lop (l : List TLOp) (i j : Int) (x y : TLOp) (h1 : get? l i = some x) (h2 : get? l j = some y) : p_impl_readList_1 i j ⟨l⟩ = some (ltK TLOp.id x y) := by
  unfold p_impl_readList_1
  rw [h1, Option.bind_some, h2, Option.bind_some, q_lessl]
def lopS : Scal TLOp where
  encS x := [.int .i64 x.kind, .int .i64 x.char, .int .i64 x.id.time, .int .i64 x.id.actor, .int .i64 x.at_.time, .int .i64 x.at_.actor]
  hE _ := rfl
  hz _ := rfl
  hp _ := rfl
  z0 := by decide
end Go.AM

set_option linter.unusedVariables false
set_option linter.unusedSimpArgs false
set_option maxRecDepth 20000
namespace Go.AM
open Pic (enc dec dec_enc dec_sub)
open PicA (encA decA decA_encA decA_sub)

/-- One more in a list of one's own. -/
theorem OwnV.push {α : Type} [Pic α] {z y T : Nat} {h : Heap} {v : V} {xs : List α} (o : OwnV z T h v xs) (hz : z = Pic.z α) (x : α) (hl : (xs.length + 1) * y ≤ 140737488355328) (hT : T < h.length) :
    ∃ v' h', stepAppend none z true y h (cellsV x) 1 v = some (v', h') ∧ OwnV z T h' v' (xs ++ [x]) ∧ (∀ b, b < h.length → (∀ g n, v ≠ .hsl b g 0 z true n) → h'[b]? = h[b]?) ∧ h.length ≤ h'.length ∧
      (∀ b g n, v' = .hsl b g 0 z true n → (∃ g n, v = .hsl b g 0 z true n) ∨ h.length ≤ b) := by
  have hc : (cellsV x).length = z := by rw [cellsV_len, hz]
  rcases o with ⟨rfl, rfl⟩ | ⟨B, h1, rfl, h3⟩
  · rw [app_nil, if_neg (by decide), if_pos (by simpa using hl)]
    refine ⟨_, _, rfl, .inr ⟨h.length, hT, by simp, ?_⟩, fun b hb _ => List.getElem?_append_left hb, by simp, ?_⟩
    · rw [gc_right0, List.nil_append, rows_one]
      show (if (cellsV x).length = ([x].length * z) then some (cellsV x) else none) = _
      rw [List.length_cons, List.length_nil, Nat.zero_add, Nat.one_mul, hc, if_pos rfl]
    · intro b g n e
      cases e
      exact .inr (Nat.le_refl _)
  · have lB := gc_lt h3
    rw [app_hsl, if_pos ⟨.inl rfl, rfl⟩, h3, Option.bind_some, if_neg (by decide), if_pos hl, if_pos rfl]
    refine ⟨_, _, rfl, .inr ⟨B, h1, ?_, ?_⟩, ?_, by simp, ?_⟩
    · rw [List.length_append, List.length_cons, List.length_nil, Nat.add_mul]
    · rw [gc_set_eq lB, rows_append, rows_one, if_pos (by rw [List.length_append, rows_len, hc, hz, List.length_append, Nat.add_mul]; simp)]
    · intro b hb hne
      rw [List.getElem?_set_ne]
      rintro rfl
      exact hne _ _ rfl
    · intro b g n e
      cases e
      exact .inl ⟨_, _, rfl⟩

/-- A list behind its pointer. -/
structure LF (h : Heap) (g p T : Nat) (v u : V) (ops ord : List TLOp) (gone : List TStamp) (pl : List (TStamp × Int)) : Prop where
  tr : getCells h T 4 = some [v, u, .mp g, .mp p]
  lo : OwnV 6 T h v ops
  lr : OwnV 6 T h u ord
  mg : h[g]? = some (.map (gone.map skI) (gone.map fun _ => .i (.s (.bool true))))
  mp : h[p]? = some (.map ((pl.map Prod.fst).map skI) (pl.map fun q => .i (.s (.int .i64 q.2))))
  gT : g < T
  pT : p < T
  gp : g ≠ p
theorem LF.app {h : Heap} {g p T : Nat} {v u : V} {ops ord : List TLOp} {gone : List TStamp} {pl : List (TStamp × Int)} (r : LF h g p T v u ops ord gone pl) (l : Heap) : LF (h ++ l) g p T v u ops ord gone pl :=
  ⟨gc_app r.tr, r.lo.app l, r.lr.app l, by rw [List.getElem?_append_left (List.getElem?_eq_some_iff.1 r.mg).1]; exact r.mg, by rw [List.getElem?_append_left (List.getElem?_eq_some_iff.1 r.mp).1]; exact r.mp, r.gT, r.pT, r.gp⟩
/-- The same where these blocks stand. -/
theorem OwnV.keep {α : Type} [Pic α] {z T : Nat} {h h' : Heap} {v : V} {xs : List α} (o : OwnV z T h v xs) (k : ∀ b g n, v = .hsl b g 0 z true n → h'[b]? = h[b]?) : OwnV z T h' v xs := by
  rcases o with ⟨h1, h2⟩ | ⟨B, h1, h2, h3⟩
  · exact .inl ⟨h1, h2⟩
  · exact .inr ⟨B, h1, h2, (getCells_congr (k B _ _ h2)).trans h3⟩
theorem OwnV.low {α : Type} [Pic α] {z T T' : Nat} {h : Heap} {v : V} {xs : List α} (o : OwnV z T h v xs) (hT : T' ≤ T) : OwnV z T' h v xs := by
  rcases o with ⟨h1, h2⟩ | ⟨B, h1, h2, h3⟩
  · exact .inl ⟨h1, h2⟩
  · exact .inr ⟨B, by omega, h2, h3⟩
theorem OwnV.lt {α : Type} [Pic α] {z T : Nat} {h : Heap} {v : V} {xs : List α} (o : OwnV z T h v xs) : ∀ b g n, v = .hsl b g 0 z true n → b < h.length ∧ T < b := by
  intro b g n e
  rcases o with ⟨h1, h2⟩ | ⟨B, h1, h2, h3⟩
  · rw [h2] at e; cases e
  · rw [h2] at e
    cases e
    exact ⟨gc_lt h3, h1⟩
theorem OwnV.src {α : Type} [Pic α] {z T : Nat} {h : Heap} {v : V} {xs : List α} (o : OwnV z T h v xs) (hz : z = Pic.z α) : srcCells h v = some (rows xs) ∧ lenV v = some xs.length := by
  rcases o with ⟨rfl, rfl⟩ | ⟨B, h1, rfl, h3⟩
  · exact ⟨rfl, rfl⟩
  · refine ⟨?_, rfl⟩
    rw [src_hsl, h3, Option.map_some, List.drop_zero, take_rows (by rw [rows_len, hz]; exact Nat.le_refl _)]
theorem OwnV.len {α : Type} [Pic α] {z T : Nat} {h : Heap} {v : V} {xs : List α} (o : OwnV z T h v xs) : lenS v = some xs.length := by
  rcases o with ⟨rfl, rfl⟩ | ⟨B, h1, rfl, h3⟩
  · rfl
  · rfl

theorem OwnV.one {α : Type} [Pic α] {z T : Nat} {h : Heap} {v : V} {xs : List α} (o : OwnV z T h v xs) : v.cells = [v] ∧ V.one v = true := by
  rcases o with ⟨rfl, rfl⟩ | ⟨B, h1, rfl, h3⟩
  · exact ⟨rfl, rfl⟩
  · exact ⟨rfl, rfl⟩

/-- Who follows whom, in a map of one's own: m. -/
structure KF (h : Heap) (m : Nat) (ks : List TStamp) (ls : List (List TLOp)) (vs : List V) : Prop where
  mp : h[m]? = some (.map (ks.map skI) vs)
  l1 : vs.length = ls.length
  l2 : ks.length = ls.length
  at_ : ∀ (i : Nat) (v : V) (l : List TLOp), vs[i]? = some v → ls[i]? = some l → OwnV 6 m h v l
  dis : ∀ i j x a n b k : Nat, i ≠ j → vs[i]? = some (.hsl x a 0 6 true n) → vs[j]? = some (.hsl x b 0 6 true k) → False
theorem KF.keep {h h' : Heap} {m : Nat} {ks : List TStamp} {ls : List (List TLOp)} {vs : List V} (r : KF h m ks ls vs) (k : ∀ b, m ≤ b → b < h.length → h'[b]? = h[b]?) : KF h' m ks ls vs :=
  ⟨(k m (Nat.le_refl _) (List.getElem?_eq_some_iff.1 r.mp).1).trans r.mp, r.l1, r.l2, fun i v l h1 h2 => (r.at_ i v l h1 h2).keep fun b g n e => k b (by have := (r.at_ i v l h1 h2).lt b g n e; omega) ((r.at_ i v l h1 h2).lt b g n e).1, r.dis⟩
/-- What a look-up among them shows. -/
theorem KF.look {h : Heap} {m : Nat} {ks : List TStamp} {ls : List (List TLOp)} {vs : List V} (r : KF h m ks ls vs) (k : TStamp) : ∃ v, lookV false [.slice none 0 0] vs (idxK ks k) = some v ∧ OwnV 6 m h v (kidsK ks ls k) := by
  unfold kidsK
  cases e : idxK ks k with
  | none => exact ⟨_, rfl, .inl ⟨rfl, rfl⟩⟩
  | some j =>
    have h1 := (List.getElem?_eq_some_iff.1 (idxK_lt e)).1
    have h2 : j < vs.length := by rw [r.l1, ← r.l2]; exact h1
    have h3 : j < ls.length := by rw [← r.l2]; exact h1
    refine ⟨vs[j], by simp [lookV, h2], ?_⟩
    have := r.at_ j vs[j] ls[j] (List.getElem?_eq_getElem h2) (List.getElem?_eq_getElem h3)
    simpa [h3] using this
end Go.AM

set_option linter.unusedVariables false
set_option linter.unusedSimpArgs false
set_option maxRecDepth 20000
namespace Go.AM
open Pic (enc dec dec_enc dec_sub)
open PicA (encA decA decA_encA decA_sub)

/-- Midway. -/
structure WI (h0 h : Heap) (g p T N : Nat) (v u : V) (ord : List TLOp) (pl : List (TStamp × Int)) : Prop where
  fr : ∀ x, x < N → x ≠ T → x ≠ p → h[x]? = h0[x]?
  nl : N ≤ h.length
  tr : getCells h T 4 = some [v, u, .mp g, .mp p]
  mp : h[p]? = some (.map ((pl.map Prod.fst).map skI) (pl.map fun q => .i (.s (.int .i64 q.2))))
  lr : OwnV 6 (N - 1) h u ord
theorem WI.app {h0 h : Heap} {g p T N : Nat} {v u : V} {ord : List TLOp} {pl : List (TStamp × Int)} (r : WI h0 h g p T N v u ord pl) (l : Heap) : WI h0 (h ++ l) g p T N v u ord pl :=
  ⟨fun x h1 h2 h3 => (List.getElem?_append_left (Nat.lt_of_lt_of_le h1 r.nl)).trans (r.fr x h1 h2 h3), by rw [List.length_append]; have := r.nl; omega, gc_app r.tr, by rw [List.getElem?_append_left (List.getElem?_eq_some_iff.1 r.mp).1]; exact r.mp, r.lr.app l⟩
theorem WI.keep {h0 h h' : Heap} {g p T N B : Nat} {v u : V} {ord : List TLOp} {pl : List (TStamp × Int)} (r : WI h0 h g p T N v u ord pl) (hp : p < T) (hTN : T < N) (hB : N ≤ B) (hu : ∀ b g n, u = .hsl b g 0 6 true n → b ≠ B) (k : ∀ x, x < h.length → x ≠ B → h'[x]? = h[x]?) (hl : h.length ≤ h'.length) : WI h0 h' g p T N v u ord pl := by
  have nl := r.nl
  refine ⟨fun x h1 h2 h3 => (k x (by omega) (by omega)).trans (r.fr x h1 h2 h3), by omega, (getCells_congr (k T (by omega) (by omega))).trans r.tr, (k p (by omega) (by omega)).trans r.mp, r.lr.keep fun b g n e => k b (r.lr.lt b g n e).1 (hu b g n e)⟩
theorem WI.setP {h0 h : Heap} {g p T N : Nat} {v u : V} {ord : List TLOp} {pl pl' : List (TStamp × Int)} (r : WI h0 h g p T N v u ord pl) (hp : p < T) (hTN : T < N) : WI h0 (h.set p (.map ((pl'.map Prod.fst).map skI) (pl'.map fun q => .i (.s (.int .i64 q.2))))) g p T N v u ord pl' := by
  have nl := r.nl
  have k : ∀ (M : Slot) x, x ≠ p → (h.set p M)[x]? = h[x]? := fun M x hx => List.getElem?_set_ne (Ne.symm hx)
  refine ⟨fun x h1 h2 h3 => (k _ x h3).trans (r.fr x h1 h2 h3), by rw [List.length_set]; exact nl, (getCells_congr (k _ T (by omega))).trans r.tr, List.getElem?_set_self (by omega), r.lr.keep fun b g n e => k _ b (by have := (r.lr.lt b g n e).2; omega)⟩
theorem WI.push {h0 h : Heap} {g p T N : Nat} {v u : V} {ord : List TLOp} {pl : List (TStamp × Int)} (r : WI h0 h g p T N v u ord pl) (hp : p < T) (hTN : T < N) (x : TLOp) (hl : ord.length ≤ 1000000) :
    ∃ u' h', stepAppend none 6 true 48 h (cellsV x) 1 u = some (u', h') ∧ getCells h' T 4 = some [v, u, .mp g, .mp p] ∧ WI h0 (h'.set T (.cells [v, u', .mp g, .mp p])) g p T N v u' (ord ++ [x]) pl ∧ (∀ b, b < h.length → b ≠ T → (∀ g n, u ≠ .hsl b g 0 6 true n) → (h'.set T (.cells [v, u', .mp g, .mp p]))[b]? = h[b]?) ∧
      (∀ b g n, u' = .hsl b g 0 6 true n → (∃ g n, u = .hsl b g 0 6 true n) ∨ h.length ≤ b) ∧ h.length ≤ h'.length := by
  have nl := r.nl
  obtain ⟨u', h', e1, e2, e3, e4, e5⟩ := r.lr.push (y := 48) rfl x (by omega) (by omega)
  have hlow : ∀ b, b < N → ∀ g n, u ≠ .hsl b g 0 6 true n := fun b hb g n e => by
    have := (r.lr.lt b g n e).2
    omega
  have kT : ∀ b, b < N → h'[b]? = h[b]? := fun b hb => e3 b (by omega) (hlow b hb)
  have s1 : ∀ (M : Slot) x, x ≠ T → (h'.set T M)[x]? = h'[x]? := fun M x hx => List.getElem?_set_ne (Ne.symm hx)
  have tr' : getCells h' T 4 = some [v, u, .mp g, .mp p] := (getCells_congr (kT T hTN)).trans r.tr
  refine ⟨u', h', e1, tr', ⟨fun x h1 h2 h3 => (s1 _ x h2).trans ((kT x h1).trans (r.fr x h1 h2 h3)), by rw [List.length_set]; omega, set_cells tr' rfl, (s1 _ p (by omega)).trans ((kT p (by omega)).trans r.mp), e2.keep fun b g n e => s1 _ b (by have := (e2.lt b g n e).2; omega)⟩, ?_, e5, e4⟩
  intro b hb hbT hne
  exact (s1 _ b hbT).trans (e3 b hb hne)
/-- The stack. -/
def StV (N : Nat) (h : Heap) (s u : V) (st : List TLOp) : Prop := ∃ (B gg : Nat) (cs : List V), N ≤ B ∧ s = .hsl B gg 0 6 true st.length ∧ getCells h B gg = some cs ∧ cs.take (st.length * 6) = rows st ∧ st.length * 6 ≤ gg ∧ ∀ b g n, u = .hsl b g 0 6 true n → b ≠ B
theorem StV.push {N : Nat} {h : Heap} {B gg : Nat} {u : V} {st : List TLOp} {cs : List V} (b1 : N ≤ B) (b3 : getCells h B gg = some cs) (b4 : cs.take (st.length * 6) = rows st) (b5 : st.length * 6 ≤ gg) (b6 : ∀ b g n, u = .hsl b g 0 6 true n → b ≠ B) (hN : N ≤ h.length) (hu : ∀ b g n, u = .hsl b g 0 6 true n → b < h.length) (ys : List TLOp) (hl : st.length + ys.length ≤ 1000000) :
    ∃ s' h', stepAppend none 6 true 48 h (rows ys) ys.length (.hsl B gg 0 6 true st.length) = some (s', h') ∧ StV N h' s' u (st ++ ys) ∧ (∀ b, b < h.length → b ≠ B → h'[b]? = h[b]?) ∧ h.length ≤ h'.length := by
  have lB := gc_lt b3
  have hcl := getCells_len b3
  rw [app_hsl, if_pos ⟨.inl rfl, rfl⟩, b3, Option.bind_some]
  by_cases h0 : ys.length = 0
  · rw [if_pos h0]
    obtain rfl := List.eq_nil_of_length_eq_zero h0
    exact ⟨_, _, rfl, ⟨B, gg, cs, b1, by rw [List.append_nil], b3, by rw [List.append_nil]; exact b4, by rw [List.append_nil]; exact b5, b6⟩, fun b _ _ => rfl, Nat.le_refl _⟩
  · rw [if_neg h0, if_pos (by omega)]
    have hz : (rows ys).length = ys.length * 6 := by rw [rows_len]; rfl
    have hz2 : (rows st).length = st.length * 6 := by rw [rows_len]; rfl
    by_cases hg : st.length * 6 = gg
    · rw [if_pos hg]
      have hcs : cs = rows st := by rw [← b4, List.take_of_length_le (by omega)]
      refine ⟨_, _, rfl, ⟨B, gg + ys.length * 6, rows (st ++ ys), b1, by rw [List.length_append], ?_, ?_, ?_, b6⟩, fun b _ hb => List.getElem?_set_ne (Ne.symm hb), by simp⟩
      · rw [gc_set_eq lB, hcs, ← rows_append, if_pos (by rw [rows_append, List.length_append]; omega)]
      · exact take_rows (by rw [rows_append, List.length_append, List.length_append]; omega)
      · rw [List.length_append]; omega
    · rw [if_neg hg]
      refine ⟨_, _, rfl, ⟨h.length, (st.length + ys.length) * 6, rows (st ++ ys), hN, ?_, ?_, ?_, ?_, fun b g n e => by have := hu b g n e; omega⟩, ?_, by simp⟩
      · show V.hsl (h.set B .dead).length _ _ _ _ _ = _
        rw [List.length_set, List.length_append]
      · show getCells (h.set B .dead ++ [Slot.cells (cs.take (st.length * 6) ++ rows ys)]) h.length _ = _
        have e : h.length = (h.set B .dead).length := by rw [List.length_set]
        rw [b4, ← rows_append]
        rw [show getCells (h.set B .dead ++ [Slot.cells (rows (st ++ ys))]) h.length ((st.length + ys.length) * 6) = getCells (h.set B .dead ++ [Slot.cells (rows (st ++ ys))]) ((h.set B .dead).length) ((st.length + ys.length) * 6) by rw [List.length_set]]
        rw [gc_right0]
        show (if (rows (st ++ ys)).length = _ then some (rows (st ++ ys)) else none) = _
        rw [if_pos (by rw [rows_append, List.length_append]; omega)]
      · exact take_rows (by rw [rows_append, List.length_append, List.length_append]; omega)
      · rw [List.length_append]; omega
      · intro b hb hbB
        show (h.set B .dead ++ _)[b]? = _
        rw [List.getElem?_append_left (by rw [List.length_set]; exact hb), List.getElem?_set_ne (Ne.symm hbB)]
theorem keysP {pl : List (TStamp × Int)} {k : TStamp} {n : Int} : insK (pl.map Prod.fst) k = (setP pl k n).map Prod.fst := by
  unfold insK setP
  cases e : idxK (pl.map Prod.fst) k with
  | none => simp
  | some j =>
    have := idxK_lt e
    show pl.map Prod.fst = (pl.set j (k, n)).map Prod.fst
    rw [List.map_set]
    apply List.ext_getElem?
    intro i
    rw [List.getElem?_set]
    split
    · rename_i hij
      subst hij
      rw [if_pos (List.getElem?_eq_some_iff.1 this).1, this]
    · rfl
theorem valsP {pl : List (TStamp × Int)} {k : TStamp} {n : Int} : insV (pl.map Prod.fst) (pl.map fun q => V.i (.s (.int .i64 q.2))) k (.i (.s (.int .i64 n))) = (setP pl k n).map fun q => V.i (.s (.int .i64 q.2)) := by
  unfold insV setP
  cases e : idxK (pl.map Prod.fst) k with
  | none => simp
  | some j =>
    simp only [List.map_set]

def c_impl_list_walk : AFn := ⟨53, (.seq (.ops [(qS 5 (.box (.tmp 2)))]) (.seq (.ops [(qS 8 (.mv (.tmp 1))), (qS 9 (.load 2 true (.tmp 5))), (qS 10 (.lookup true [(.int .i64), (.int .i64)] false [(.slice .none 0 0)] false (.tmp 8) (.tmp 9))), (qS 11 (.appendV 6 true 48 (.tmp 10))), (qS 6 (.mv (.tmp 11)))]) (.block 0 (.loop (.seq (.seq (.ops [(qS 12 (.mv (.tmp 6))), (qS 13 (.len (.tmp 12))), (qS 14 (.pu (.n (.ar .gtr)) [(.tmp 13), (ic 0)]))]) (.cond (.tmp 14) .skip (.exit 0))) (.block 1 (.seq (.ops [(qS 15 (.mv (.tmp 6))), (qS 16 (.mv (.tmp 6))), (qS 17 (.len (.tmp 16))), (qS 18 (.pu (.n (.ar .sub)) [(.tmp 17), (ic 1)])), (qS 19 (.idxS 6 (.tmp 15) (.tmp 18))), (qS 20 (.load 6 true (.tmp 19))), (qS 7 (.allocV [(0, false), (0, false), (0, false), (0, false), (0, false), (0, false)] [(.int .i64 0), (.int .i64 0), (.int .i64 0), (.int .i64 0), (.int .i64 0), (.int .i64 0)])), ⟨.none, (.storeV [(0, false), (0, false), (0, false), (0, false), (0, false), (0, false)] 6 (.tmp 7) (.tmp 20)), .none, [], .none⟩]) (.seq (.ops [(qS 21 (.mv (.tmp 6))), (qS 22 (.mv (.tmp 6))), (qS 23 (.len (.tmp 22))), (qS 24 (.pu (.n (.ar .sub)) [(.tmp 23), (ic 1)])), (qS 25 (.slice 6 (.tmp 21) .none (.some (.tmp 24)))), (qS 6 (.mv (.tmp 25)))]) (.seq (.ops [(qS 26 (.mv (.tmp 0))), (qS 27 (.nilChk (.tmp 26))), (qS 28 (.fieldA 3 (.tmp 27))), (qS 29 (.load 1 false (.tmp 28))), (qS 30 (.fieldA 2 (.tmp 7))), (qS 31 (.load 2 true (.tmp 30))), (qS 32 (.mv (.tmp 0))), (qS 33 (.nilChk (.tmp 32))), (qS 34 (.fieldA 1 (.tmp 33))), (qS 35 (.load 1 false (.tmp 34))), (qS 36 (.len (.tmp 35))), ⟨.none, (.mapSet true [(.int .i64), (.int .i64)] (.tmp 29) (.tmp 31) (.tmp 36)), .none, [], .none⟩]) (.seq (.ops [(qS 37 (.mv (.tmp 0))), (qS 38 (.mv (.tmp 0))), (qS 39 (.nilChk (.tmp 38))), (qS 40 (.fieldA 1 (.tmp 39))), (qS 41 (.load 1 false (.tmp 40))), (qS 42 (.load 6 true (.tmp 7))), (qS 43 (.buildSl 6 true 1 [(.int .i64 0), (.int .i64 0), (.int .i64 0), (.int .i64 0), (.int .i64 0), (.int .i64 0)] [(0, (.tmp 42))])), (qS 44 (.append 6 true 48 (.tmp 41) (.tmp 43))), (qS 45 (.nilChk (.tmp 37))), (qS 46 (.fieldA 1 (.tmp 45))), ⟨.none, (.store 1 (.tmp 46) (.tmp 44)), .none, [], .none⟩]) (.ops [(qS 47 (.mv (.tmp 6))), (qS 48 (.mv (.tmp 1))), (qS 49 (.fieldA 2 (.tmp 7))), (qS 50 (.load 2 true (.tmp 49))), (qS 51 (.lookup true [(.int .i64), (.int .i64)] false [(.slice .none 0 0)] false (.tmp 48) (.tmp 50))), (qS 52 (.append 6 true 48 (.tmp 47) (.tmp 51))), (qS 6 (.mv (.tmp 52)))]))))))))))), []⟩

theorem walk_loop {t : Nat → V} {P : Program} {env : Env} {Q : Post} {h0 h : Heap} {g p m T n0 : Nat} {v u s : V} {ops : List TLOp} {gone ks : List TStamp} {ls : List (List TLOp)} {vs : List V} {st ord ordF : List TLOp} {pl plF : List (TStamp × Int)}
    (lf : LF h0 g p T v (.i (.s (.slice none 0 0))) ops [] gone []) (kf : KF h0 m ks ls vs) (hTm : T < m) (wi : WI h0 h g p T h0.length v u ord pl) (sv : StV h0.length h s u st) (g0 : t 0 = .ptr T 4 0) (g1 : t 1 = .mp m) (g6 : t 6 = s) (hw : walkK ks ls n0 st ord pl = some (ordF, plF))
    (hQ : ∀ t' h' u, WI h0 h' g p T h0.length v u ordF plF → Q (.exit 0) t' h') :
    @W P env ⟨(.loop (.seq (.seq (.ops [(qS 12 (.mv (.tmp 6))), (qS 13 (.len (.tmp 12))), (qS 14 (.pu (.n (.ar .gtr)) [(.tmp 13), (ic 0)]))]) (.cond (.tmp 14) .skip (.exit 0))) (.block 1 (.seq (.ops [(qS 15 (.mv (.tmp 6))), (qS 16 (.mv (.tmp 6))), (qS 17 (.len (.tmp 16))), (qS 18 (.pu (.n (.ar .sub)) [(.tmp 17), (ic 1)])), (qS 19 (.idxS 6 (.tmp 15) (.tmp 18))), (qS 20 (.load 6 true (.tmp 19))), (qS 7 (.allocV [(0, false), (0, false), (0, false), (0, false), (0, false), (0, false)] [(.int .i64 0), (.int .i64 0), (.int .i64 0), (.int .i64 0), (.int .i64 0), (.int .i64 0)])), ⟨.none, (.storeV [(0, false), (0, false), (0, false), (0, false), (0, false), (0, false)] 6 (.tmp 7) (.tmp 20)), .none, [], .none⟩]) (.seq (.ops [(qS 21 (.mv (.tmp 6))), (qS 22 (.mv (.tmp 6))), (qS 23 (.len (.tmp 22))), (qS 24 (.pu (.n (.ar .sub)) [(.tmp 23), (ic 1)])), (qS 25 (.slice 6 (.tmp 21) .none (.some (.tmp 24)))), (qS 6 (.mv (.tmp 25)))]) (.seq (.ops [(qS 26 (.mv (.tmp 0))), (qS 27 (.nilChk (.tmp 26))), (qS 28 (.fieldA 3 (.tmp 27))), (qS 29 (.load 1 false (.tmp 28))), (qS 30 (.fieldA 2 (.tmp 7))), (qS 31 (.load 2 true (.tmp 30))), (qS 32 (.mv (.tmp 0))), (qS 33 (.nilChk (.tmp 32))), (qS 34 (.fieldA 1 (.tmp 33))), (qS 35 (.load 1 false (.tmp 34))), (qS 36 (.len (.tmp 35))), ⟨.none, (.mapSet true [(.int .i64), (.int .i64)] (.tmp 29) (.tmp 31) (.tmp 36)), .none, [], .none⟩]) (.seq (.ops [(qS 37 (.mv (.tmp 0))), (qS 38 (.mv (.tmp 0))), (qS 39 (.nilChk (.tmp 38))), (qS 40 (.fieldA 1 (.tmp 39))), (qS 41 (.load 1 false (.tmp 40))), (qS 42 (.load 6 true (.tmp 7))), (qS 43 (.buildSl 6 true 1 [(.int .i64 0), (.int .i64 0), (.int .i64 0), (.int .i64 0), (.int .i64 0), (.int .i64 0)] [(0, (.tmp 42))])), (qS 44 (.append 6 true 48 (.tmp 41) (.tmp 43))), (qS 45 (.nilChk (.tmp 37))), (qS 46 (.fieldA 1 (.tmp 45))), ⟨.none, (.store 1 (.tmp 46) (.tmp 44)), .none, [], .none⟩]) (.ops [(qS 47 (.mv (.tmp 6))), (qS 48 (.mv (.tmp 1))), (qS 49 (.fieldA 2 (.tmp 7))), (qS 50 (.load 2 true (.tmp 49))), (qS 51 (.lookup true [(.int .i64), (.int .i64)] false [(.slice .none 0 0)] false (.tmp 48) (.tmp 50))), (qS 52 (.append 6 true 48 (.tmp 47) (.tmp 51))), (qS 6 (.mv (.tmp 52)))]))))))))⟩ t h ⟨Q⟩ := by
  refine W_loopK (fun n t h => ∃ (u s : V) (st ord : List TLOp) (pl : List (TStamp × Int)), t 0 = .ptr T 4 0 ∧ t 1 = .mp m ∧ t 6 = s ∧ WI h0 h g p T h0.length v u ord pl ∧ StV h0.length h s u st ∧ walkK ks ls n st ord pl = some (ordF, plF)) n0 ⟨u, s, st, ord, pl, g0, g1, g6, wi, sv, hw⟩ ?_
  clear g0 g1 g6 wi sv hw
  rintro K n t h hn hx ⟨u, s, st, ord, pl, g0, g1, g6, wi, sv, hw⟩
  cases n with
  | zero => cases hw
  | succ n =>
    rw [walkK] at hw
    obtain ⟨B, gg, cs, b1, rfl, b3, b4, b5, b6⟩ := sv
    cases hl : st.getLast? with
    | none =>
      rw [hl] at hw
      obtain rfl := List.getLast?_eq_none_iff.1 hl
      cases hw
      have hz : ((0 : Int) < 0) = False := by simp
      simp (maxSteps := 2000000) (disch := omega) only [gw, Nat.reduceAdd, Nat.reduceMul, g0, g1, g6, hz]
      exact hx _ _ _ (by simp) (hQ _ _ u wi)
    | some o =>
      rw [hl] at hw
      obtain ⟨st', rfl⟩ := List.getLast?_eq_some_iff.1 hl
      simp only [List.dropLast_concat] at hw
      have hlen : (st' ++ [o]).length = st'.length + 1 := by simp
      rw [hlen] at b4 b5 g6 hw
      split at hw
      case isFalse => cases hw
      rename_i hg
      have hpos : (0 : Int) < ((st'.length + 1 : Nat) : Int) := by omega
      have x1 : stepIdxS 6 h (st'.length : Int) (.hsl B gg 0 6 true (st'.length + 1)) = some (.ptr B gg (st'.length * 6)) := by
        simp only [stepIdxS, b3]
        rw [if_pos ⟨trivial, by omega, by omega⟩]
        simp
      have hcl := getCells_len b3
      have r1 : stepLoad 6 true h (.ptr B gg (st'.length * 6)) = some (.agg (cellsV o)) := by
        simp only [stepLoad, b3, Option.bind_some]
        rw [if_pos (by omega)]
        have h1 : (cs.drop (st'.length * 6)).take 6 = (((cs.take ((st'.length + 1) * 6)).drop (st'.length * 6)).take 6) := by
          rw [List.drop_take, List.take_take, Nat.min_eq_left (by omega)]
        rw [h1, b4]
        have := rows_get (xs := st' ++ [o]) (n := st'.length) (x := o) (by simp)
        rw [z_TLOp] at this
        rw [this]
        rfl
      have e1 : st'.length + 1 - 1 = st'.length := rfl
      have lT := gc_lt wi.tr
      have hpT := lf.pT
      have nl := wi.nl
      have hTN : T < h0.length := gc_lt lf.tr
      have rT : ∀ l, getCells (h ++ l) T 4 = some [v, u, .mp g, .mp p] := fun l => gc_app wi.tr
      have rM : ∀ l, mapAt (h ++ l) (.mp p) = some (p, (pl.map Prod.fst).map skI, pl.map fun q => V.i (.s (.int .i64 q.2))) := fun l => by
        simp only [mapAt, (wi.app l).mp]
      have hu := wi.lr.len
      have wi1 := (((wi.setP (pl' := setP pl o.id (ord.length : Int)) hpT hTN).app [Slot.cells (cellsV o)]).app [Slot.cells (cellsV o)])
      have b31 : ∀ l, getCells (h.set p (.map (((setP pl o.id (ord.length : Int)).map Prod.fst).map skI) ((setP pl o.id (ord.length : Int)).map fun q => .i (.s (.int .i64 q.2)))) ++ l) B gg = some cs := fun l => gc_app (by rw [gc_set (by omega)]; exact b3)
      have hpl : setP pl ⟨o.id.time, o.id.actor⟩ (ord.length : Int) = setP pl o.id (ord.length : Int) := rfl
      obtain ⟨u', h1, p1, p2, p3, p4, p5, p6⟩ := wi1.push hpT hTN o hg.2
      have rT2 : ∀ l, getCells (h.set p (.map (((setP pl o.id (ord.length : Int)).map Prod.fst).map skI) ((setP pl o.id (ord.length : Int)).map fun q => .i (.s (.int .i64 q.2)))) ++ l) T 4 = some [v, u, .mp g, .mp p] := fun l => gc_app (by rw [gc_set (by omega)]; exact wi.tr)
      rw [List.append_assoc] at p1
      have hoo : ∀ (M : Slot) (l : Heap), getCells (h.set p M ++ (Slot.cells (cellsV o) :: l)) h.length 6 = some (cellsV o) := fun M l => by
        rw [gc_ge (by rw [List.length_set]; exact Nat.le_refl _), List.length_set, Nat.sub_self]
        rfl
      have ho1 : ∀ (M A : Slot) (l : Heap), getCells (h.set p M ++ (A :: Slot.cells (cellsV o) :: l)) (h.length + 1) 6 = some (cellsV o) := fun M A l => by
        rw [gc_ge (by rw [List.length_set]; omega), List.length_set, Nat.add_sub_cancel_left]
        rfl
      have hul : ∀ b g n, u = .hsl b g 0 6 true n → b < h.length := fun b g n e => (wi.lr.lt b g n e).1
      have ho2 : getCells (h1.set T (.cells [v, u', .mp g, .mp p])) h.length 6 = some (cellsV o) := by
        rw [← hoo _ [Slot.cells (cellsV o)]]
        refine getCells_congr ?_
        rw [p4 h.length (by simp) (by omega) (fun g n e => by have := hul _ _ _ e; omega), List.append_assoc]
        rfl
      have ho3 : getCells h1 h.length 6 = some (cellsV o) := by
        rw [← ho2]
        exact getCells_congr (List.getElem?_set_ne (by omega)).symm
      obtain ⟨u1, u2⟩ := p3.lr.one
      have kf2 := kf.keep (h' := h1.set T (.cells [v, u', .mp g, .mp p])) (fun b hb hl => p3.fr b hl (by omega) (by omega))
      obtain ⟨x, k1, k2⟩ := kf2.look o.id
      obtain ⟨k3, k4⟩ := k2.src rfl
      have rK : mapR (h1.set T (.cells [v, u', .mp g, .mp p])) (.mp m) = some (m, ks.map skI, vs) := by
        have rA : mapAt (h1.set T (.cells [v, u', .mp g, .mp p])) (.mp m) = some (m, ks.map skI, vs) := by simp only [mapAt, kf2.mp]
        exact rA
      have hB : getCells (h1.set T (.cells [v, u', .mp g, .mp p])) B gg = some cs := by
        have lB := gc_lt b3
        rw [← b31 [Slot.cells (cellsV o), Slot.cells (cellsV o)]]
        refine getCells_congr ?_
        rw [p4 B (by simp; omega) (by omega) (fun g n e => b6 _ _ _ e rfl), List.append_assoc]
        rfl
      have hub : ∀ b g n, u' = .hsl b g 0 6 true n → b ≠ B := fun b g n e => by
        rcases p5 b g n e with ⟨g', n', e'⟩ | hb
        · exact b6 _ _ _ e'
        · have lB := gc_lt b3
          simp only [List.length_append, List.length_set, List.length_cons, List.length_nil] at hb
          omega
      obtain ⟨s', h2, q1, q2, q3, q4⟩ := StV.push (N := h0.length) (u := u') (st := st') b1 hB (by
        have := congrArg (List.take (st'.length * 6)) b4
        rw [List.take_take, Nat.min_eq_left (by omega)] at this
        rw [this, rows_append]
        exact List.take_left' (by rw [rows_len]; rfl)) (by omega) hub p3.nl (fun b g n e => (p3.lr.lt b g n e).1) (kidsK ks ls o.id) (by omega)
      simp only [List.cons_append, List.nil_append, cellsV_TLOp] at p1 b31 rT2 hoo ho2 ho1 ho3
      have hko : (ks.map skI, vs) = (ks.map skI, vs) := rfl
      have hid : idxK ks ⟨o.id.time, o.id.actor⟩ = idxK ks o.id := rfl
      have hall : (rows (kidsK ks ls o.id)).all V.one = true ∧ (rows (kidsK ks ls o.id)).length = (kidsK ks ls o.id).length * 6 := ⟨ones_rows, by rw [rows_len]; rfl⟩
      simp (maxSteps := 2000000) (disch := omega) only [gw, Nat.reduceAdd, Nat.reduceMul, g0, g1, g6, hpos, x1, r1, e1, cellsV_TLOp, rT, rM, hu, keyV_s, keyV_v, sk_keys, hit_sk, fits_sk, set_sk, keysP (n := (ord.length : Int)), valsP, hpl, rT2, p1, p2, hoo, ho1, ho2, ho3, u1, u2, rK, hid, k1, k3, k4, hall, q1]
      exact hn _ _ _ (by omega) ⟨u', s', _, _, _, g0, g1, rfl, p3.keep hpT hTN b1 hub q3 q4, q2, hw⟩

def k_impl_list_walk (F : Fun) : Prop := ∀ (h : Heap) (g p m T : Nat) (v : V) (ops : List TLOp) (gone ks : List TStamp) (ls : List (List TLOp)) (vs : List V) (ordF : List TLOp) (plF : List (TStamp × Int)), LF h g p T v (.i (.s (.slice none 0 0))) ops [] gone [] → KF h m ks ls vs → T < m →
  (kidsK ks ls ⟨0, 0⟩).length ≤ 1000000 → fixP (fun n => walkK ks ls n (kidsK ks ls ⟨0, 0⟩) [] []) = some (ordF, plF) → ∃ u h', F none [.ptr T 4 0, .mp m, .agg [.i (iN 0), .i (iN 0)]] h = some (.tup [], h') ∧ LF h' g p T v u ops ordF gone plF
theorem ko_impl_list_walk {P : Program} {env : Env} : k_impl_list_walk (runIn P env c_impl_list_walk) := by
  intro h g p m T v ops gone ks ls vs ordF plF lf kf hTm hk0 hf
  obtain ⟨n0, hw⟩ := fixP_some hf
  have hR : R P env c_impl_list_walk [.ptr T 4 0, .mp m, .agg [.i (iN 0), .i (iN 0)]] h (fun r h' => r = .tup [] ∧ ∃ u, LF h' g p T v u ops ordF gone plF) := by
    refine R_of (by simp [c_impl_list_walk]) ?_
    unfold c_impl_list_walk
    have hTN : T < h.length := gc_lt lf.tr
    have hpT := lf.pT
    have hgT := lf.gT
    obtain ⟨x, k1, k2⟩ := (kf.keep (h' := h ++ [Slot.cells [.i (iN 0), .i (iN 0)]]) (fun b _ hl => List.getElem?_append_left hl)).look ⟨0, 0⟩
    obtain ⟨k3, k4⟩ := k2.src rfl
    have rK : ∀ l, mapR (h ++ l) (.mp m) = some (m, ks.map skI, vs) := fun l => by
      have rA : mapAt (h ++ l) (.mp m) = some (m, ks.map skI, vs) := by
        have := (List.getElem?_eq_some_iff.1 kf.mp).1
        simp only [mapAt, List.getElem?_append_left this, kf.mp]
      exact rA
    have hall : (rows (kidsK ks ls ⟨0, 0⟩)).all V.one = true ∧ (rows (kidsK ks ls ⟨0, 0⟩)).length = (kidsK ks ls ⟨0, 0⟩).length * 6 := ⟨ones_rows, by rw [rows_len]; rfl⟩
    obtain ⟨s', h2, q1, q2, q3, q4⟩ := StV.push (N := h.length) (h := h ++ [Slot.cells [.i (iN 0), .i (iN 0)], .virt]) (B := h.length + 1) (gg := 0) (u := .i (.s (.slice none 0 0))) (st := []) (cs := []) (by omega) (by rw [gc_right]; rfl) rfl (by simp) (fun b g n e => by cases e) (by simp) (fun b g n e => by cases e) (kidsK ks ls ⟨0, 0⟩) (by simpa using hk0)
    simp only [List.length_nil] at q1
    simp (maxSteps := 2000000) (disch := omega) only [gw, Nat.reduceAdd, Nat.reduceMul, rK, keyV_v, keyV_s, keyV_i, keyV_iN, sk_keys, hit_sk, fits_sk, k1, k3, k4, hall, q1]
    have wi : WI h h2 g p T h.length v (.i (.s (.slice none 0 0))) [] [] := by
      refine ⟨fun y hy _ _ => ?_, by simp at q4; omega, ?_, ?_, .inl ⟨rfl, rfl⟩⟩
      · rw [q3 y (by simp; omega) (by omega), List.getElem?_append_left hy]
      · refine (getCells_congr ?_).trans lf.tr
        rw [q3 T (by simp; omega) (by omega), List.getElem?_append_left hTN]
      · rw [q3 p (by simp; omega) (by omega), List.getElem?_append_left (by omega)]
        exact lf.mp
    refine walk_loop (h0 := h) (ops := ops) (gone := gone) (ks := ks) (ls := ls) (vs := vs) (m := m) (u := .i (.s (.slice none 0 0))) lf kf hTm wi (s := s') (st := kidsK ks ls ⟨0, 0⟩) (by simpa using q2) rfl rfl rfl hw ?_
    intro t' h' u wi
    simp (maxSteps := 2000000) (disch := omega) only [gw, Nat.reduceAdd, Nat.reduceMul]
    refine ⟨u, wi.tr, lf.lo.keep fun b gg n e => ?_, wi.lr.low (by omega), ?_, wi.mp, lf.gT, lf.pT, lf.gp⟩
    · have := lf.lo.lt b gg n e
      exact wi.fr b this.1 (by omega) (by omega)
    · rw [wi.fr g (by omega) (by omega) lf.gp]
      exact lf.mg
  obtain ⟨⟨r, h1⟩, e1, e2, u, e3⟩ := hR
  exact ⟨u, h1, by rw [← e2]; exact e1, e3⟩
end Go.AM
