/- Several texts of the abstract machine in one. No condition. -/
import Derived.Test.YtbmeclcmcknbaaaLabPackC
import Derived.Sort.Walk7
import Derived.Sort.Walk13a
import Derived.Shelf.GgSortFunc.RowK
import Derived.Sort.OwnSorted
import Derived.Lib.ReflectliteSwap
import Derived.Shelf.GgSortFunc.Slice
import Derived.Shelf.GgSortFunc.Tiny
import Derived.Shelf.GgSortFunc.Small
set_option linter.unusedVariables false
set_option linter.unusedSimpArgs false
set_option maxRecDepth 20000
namespace Go.AM
open Go.Sort
variable {P : Program} {env : Env} {α : Type} [Inhabited α]

def c_sort_insertionSort_func : AFn := ⟨35, (.seq (.ops [(qS 3 (.box (.tmp 0)))]) (.seq (.ops [(qS 8 (.mv (.tmp 1))), (qS 9 (.pu (.n (.ar .add)) [(.tmp 8), (ic 1)])), (qS 6 (.mv (.tmp 9)))]) (.block 0 (.loop (.seq (.seq (.ops [(qS 10 (.mv (.tmp 6))), (qS 11 (.mv (.tmp 2))), (qS 12 (.pu (.n (.ar .lss)) [(.tmp 10), (.tmp 11)]))]) (.cond (.tmp 12) .skip (.exit 0))) (.seq (.block 1 (.seq (.ops [(qS 15 (.mv (.tmp 6))), (qS 7 (.mv (.tmp 15)))]) (.block 2 (.loop (.seq (.seq (.ops [(qS 16 (.mv (.tmp 7))), (qS 17 (.mv (.tmp 1))), (qS 18 (.pu (.n (.ar .gtr)) [(.tmp 16), (.tmp 17)])), (qS 19 (.mv (.tmp 18))), ⟨(.some 20), (.fieldA 0 (.tmp 3)), (.some (19, true)), [], .none⟩, ⟨(.some 21), (.load 1 false (.tmp 20)), (.some (19, true)), [], .none⟩, ⟨(.some 22), (.mv (.tmp 7)), (.some (19, true)), [], .none⟩, ⟨(.some 23), (.mv (.tmp 7)), (.some (19, true)), [], .none⟩, ⟨(.some 24), (.pu (.n (.ar .sub)) [(.tmp 23), (ic 1)]), (.some (19, true)), [], .none⟩, ⟨(.some 25), (.dyn (.tmp 21) [(.tmp 22), (.tmp 24)]), (.some (19, true)), [], .none⟩, (qS 26 (.pick (.tmp 19) (.tmp 25) (.const (.bool false))))]) (.cond (.tmp 26) .skip (.exit 2))) (.seq (.block 3 (.ops [(qS 29 (.fieldA 1 (.tmp 3))), (qS 30 (.load 1 false (.tmp 29))), (qS 31 (.mv (.tmp 7))), (qS 32 (.mv (.tmp 7))), (qS 33 (.pu (.n (.ar .sub)) [(.tmp 32), (ic 1)])), (qS 34 (.dyn (.tmp 30) [(.tmp 31), (.tmp 33)]))])) (.ops [(qS 27 (.mv (.tmp 7))), (qS 28 (.pu (.n (.ar .sub)) [(.tmp 27), (ic 1)])), (qS 7 (.mv (.tmp 28)))]))))))) (.ops [(qS 13 (.mv (.tmp 6))), (qS 14 (.pu (.n (.ar .add)) [(.tmp 13), (ic 1)])), (qS 6 (.mv (.tmp 14)))]))))))), []⟩

theorem W_insertionSort {L : LS env α} {H : Heap} {A : Array α} (hL : L.Lh H A) (a b : Nat) (hb : b ≤ L.sz) (ha : a ≤ L.sz) :
    R P env c_sort_insertionSort_func [.agg [L.less, L.swap], nV a, nV b] H (PostS L H (insertionSort L.lt A a b) (.tup [])) := by
  have big := L.big
  refine R_of (by simp [c_sort_insertionSort_func]) ?_
  unfold c_sort_insertionSort_func
  have f0 := Fr.start hL
  simp (maxSteps := 2000000) (disch := omega) only [gw, Nat.reduceAdd, Nat.reduceMul, L.oneL, L.oneS]
  generalize H ++ [.cells [L.less, L.swap]] = h0 at f0 ⊢
  generalize H.length = B at f0 ⊢
  obtain ⟨R0, hR0⟩ : ∃ R0, R0 = insertionSort L.lt A a b := ⟨_, rfl⟩
  rw [← hR0]
  refine W_loopK (fun n t h => ∃ i A', n = b - i ∧ t 1 = nV a ∧ t 2 = nV b ∧ t 3 = .ptr B 2 0 ∧ t 6 = nV i ∧ a < i ∧ i ≤ L.sz + 1 ∧ Fr L H B h A' ∧ R0 = insOuter L.lt a b i A') (b - (a + 1)) ⟨a + 1, A, rfl, rfl, rfl, rfl, rfl, by omega, by omega, f0, hR0⟩ ?_
  clear f0 hR0 hL
  rintro K n t h hn hx ⟨i, A', rfl, h1, h2, h3, h6, hai, hi, f, hR⟩
  by_cases hib : i < b
  · rw [insOuter, if_pos hib] at hR
    simp (maxSteps := 2000000) (disch := omega) only [gw, Nat.reduceAdd, Nat.reduceMul, h1, h2, h3, h6, hib]
    refine W_loopK (fun n t h => ∃ j A2, j = n ∧ t 1 = nV a ∧ t 2 = nV b ∧ t 3 = .ptr B 2 0 ∧ t 6 = nV i ∧ t 7 = nV j ∧ j ≤ i ∧ Fr L H B h A2 ∧ insInner L.lt a i A' = insInner L.lt a j A2) i ⟨i, A', rfl, h1, h2, h3, h6, rfl, Nat.le_refl _, f, rfl⟩ ?_
    clear f h1 h2 h3 h6
    clear t h
    rintro K2 n t h hn2 hx2 ⟨j, A2, rfl, h1, h2, h3, h6, h7, hji, f, hI⟩
    have hnx : ∀ t' h', t' 1 = nV a → t' 2 = nV b → t' 3 = .ptr B 2 0 → t' 6 = nV (i + 1) → Fr L H B h' (insInner L.lt a i A') → K .normal t' h' := fun t' h' g1 g2 g3 g6 g => hn _ _ _ (by omega) ⟨i + 1, _, rfl, g1, g2, g3, g6, by omega, by omega, g, hR⟩
    clear hn hx
    by_cases haj : a < j
    · obtain ⟨k, rfl⟩ : ∃ k, j = k + 1 := ⟨j - 1, by omega⟩
      have hl := f.lessN (k + 1) k (by omega) (by omega)
      obtain ⟨h', hs, f'⟩ := f.swapN (k + 1) k (by omega) (by omega)
      by_cases hlt : L.lt A2[k + 1]! A2[k]! = true
      · rw [insInner, if_pos (by simp [haj, hlt])] at hI
        rw [hlt] at hl
        simp (maxSteps := 2000000) (disch := omega) only [gw, Nat.reduceAdd, Nat.reduceMul, h1, h2, h3, h6, h7, haj, f.ldL, f.ldS, hl, hs, Nat.add_sub_cancel]
        exact hn2 _ _ _ (by omega) ⟨k, _, rfl, h1, h2, h3, h6, rfl, by omega, f', hI⟩
      · rw [insInner, if_neg (by simp [hlt])] at hI
        rw [Bool.not_eq_true] at hlt
        rw [hlt] at hl
        simp (maxSteps := 2000000) (disch := omega) only [gw, Nat.reduceAdd, Nat.reduceMul, h1, h2, h3, h6, h7, haj, f.ldL, f.ldS, hl, Nat.add_sub_cancel]
        refine hx2 _ _ _ (by simp) ?_
        simp (maxSteps := 2000000) (disch := omega) only [gw, Nat.reduceAdd, Nat.reduceMul, h1, h2, h3, h6, h7]
        rw [hI] at hnx
        exact hnx _ _ h1 h2 h3 rfl f
    · have hI2 : insInner L.lt a j A2 = A2 := by
        cases j with
        | zero => rfl
        | succ k => rw [insInner, if_neg (by simp [haj])]
      rw [hI2] at hI
      simp (maxSteps := 2000000) (disch := omega) only [gw, Nat.reduceAdd, Nat.reduceMul, h1, h2, h3, h6, h7, haj]
      refine hx2 _ _ _ (by simp) ?_
      simp (maxSteps := 2000000) (disch := omega) only [gw, Nat.reduceAdd, Nat.reduceMul, h1, h2, h3, h6, h7]
      rw [hI] at hnx
      exact hnx _ _ h1 h2 h3 rfl f
  · rw [insOuter, if_neg hib] at hR
    simp (maxSteps := 2000000) (disch := omega) only [gw, Nat.reduceAdd, Nat.reduceMul, h1, h2, h3, h6, hib]
    refine hx _ _ _ (by simp) ?_
    subst hR
    simp (maxSteps := 2000000) (disch := omega) only [gw, Nat.reduceAdd, Nat.reduceMul]
    exact ⟨rfl, f.lh, f.keep⟩

def c_sort_siftDown_func : AFn := ⟨55, (.seq (.ops [(qS 4 (.box (.tmp 0)))]) (.seq (.ops [(qS 10 (.mv (.tmp 1))), (qS 8 (.mv (.tmp 10)))]) (.block 0 (.loop (.block 1 (.seq (.ops [(qS 11 (.mv (.tmp 8))), (qS 12 (.pu (.n (.ar .mul)) [(ic 2), (.tmp 11)])), (qS 13 (.pu (.n (.ar .add)) [(.tmp 12), (ic 1)])), (qS 9 (.mv (.tmp 13)))]) (.seq (.seq (.ops [(qS 14 (.mv (.tmp 9))), (qS 15 (.mv (.tmp 2))), (qS 16 (.pu (.n (.ar .geq)) [(.tmp 14), (.tmp 15)]))]) (.cond (.tmp 16) (.exit 0) .skip)) (.seq (.seq (.ops [(qS 17 (.mv (.tmp 9))), (qS 18 (.pu (.n (.ar .add)) [(.tmp 17), (ic 1)])), (qS 19 (.mv (.tmp 2))), (qS 20 (.pu (.n (.ar .lss)) [(.tmp 18), (.tmp 19)])), (qS 21 (.mv (.tmp 20))), ⟨(.some 22), (.fieldA 0 (.tmp 4)), (.some (21, true)), [], .none⟩, ⟨(.some 23), (.load 1 false (.tmp 22)), (.some (21, true)), [], .none⟩, ⟨(.some 24), (.mv (.tmp 3)), (.some (21, true)), [], .none⟩, ⟨(.some 25), (.mv (.tmp 9)), (.some (21, true)), [], .none⟩, ⟨(.some 26), (.pu (.n (.ar .add)) [(.tmp 24), (.tmp 25)]), (.some (21, true)), [], .none⟩, ⟨(.some 27), (.mv (.tmp 3)), (.some (21, true)), [], .none⟩, ⟨(.some 28), (.mv (.tmp 9)), (.some (21, true)), [], .none⟩, ⟨(.some 29), (.pu (.n (.ar .add)) [(.tmp 27), (.tmp 28)]), (.some (21, true)), [], .none⟩, ⟨(.some 30), (.pu (.n (.ar .add)) [(.tmp 29), (ic 1)]), (.some (21, true)), [], .none⟩, ⟨(.some 31), (.dyn (.tmp 23) [(.tmp 26), (.tmp 30)]), (.some (21, true)), [], .none⟩, (qS 32 (.pick (.tmp 21) (.tmp 31) (.const (.bool false))))]) (.cond (.tmp 32) (.ops [(qS 33 (.mv (.tmp 9))), (qS 34 (.pu (.n (.ar .add)) [(.tmp 33), (ic 1)])), (qS 9 (.mv (.tmp 34)))]) .skip)) (.seq (.seq (.ops [(qS 35 (.fieldA 0 (.tmp 4))), (qS 36 (.load 1 false (.tmp 35))), (qS 37 (.mv (.tmp 3))), (qS 38 (.mv (.tmp 8))), (qS 39 (.pu (.n (.ar .add)) [(.tmp 37), (.tmp 38)])), (qS 40 (.mv (.tmp 3))), (qS 41 (.mv (.tmp 9))), (qS 42 (.pu (.n (.ar .add)) [(.tmp 40), (.tmp 41)])), (qS 43 (.dyn (.tmp 36) [(.tmp 39), (.tmp 42)])), (qS 44 (.pu (.n (.un .not)) [(.tmp 43)]))]) (.cond (.tmp 44) .ret .skip)) (.seq (.ops [(qS 45 (.fieldA 1 (.tmp 4))), (qS 46 (.load 1 false (.tmp 45))), (qS 47 (.mv (.tmp 3))), (qS 48 (.mv (.tmp 8))), (qS 49 (.pu (.n (.ar .add)) [(.tmp 47), (.tmp 48)])), (qS 50 (.mv (.tmp 3))), (qS 51 (.mv (.tmp 9))), (qS 52 (.pu (.n (.ar .add)) [(.tmp 50), (.tmp 51)])), (qS 53 (.dyn (.tmp 46) [(.tmp 49), (.tmp 52)]))]) (.ops [(qS 54 (.mv (.tmp 9))), (qS 8 (.mv (.tmp 54)))]))))))))))), []⟩

theorem W_siftDown {L : LS env α} {H : Heap} {A : Array α} (hL : L.Lh H A) (lo hi first : Nat) (hb : first + hi ≤ L.sz) (hlo : lo ≤ L.sz) :
    R P env c_sort_siftDown_func [.agg [L.less, L.swap], nV lo, nV hi, nV first] H (PostS L H (siftDown L.lt hi first lo A) (.tup [])) := by
  have big := L.big
  refine R_of (by simp [c_sort_siftDown_func]) ?_
  unfold c_sort_siftDown_func
  have f0 := Fr.start hL
  simp (maxSteps := 2000000) (disch := omega) only [gw, Nat.reduceAdd, Nat.reduceMul, L.oneL, L.oneS]
  generalize H ++ [.cells [L.less, L.swap]] = h0 at f0 ⊢
  generalize H.length = B at f0 ⊢
  obtain ⟨R0, hR0⟩ : ∃ R0, R0 = siftDown L.lt hi first lo A := ⟨_, rfl⟩
  rw [← hR0]
  refine W_loopK (fun n t h => ∃ r A', n = L.sz - r ∧ t 2 = nV hi ∧ t 3 = nV first ∧ t 4 = .ptr B 2 0 ∧ t 8 = nV r ∧ r ≤ L.sz ∧ Fr L H B h A' ∧ R0 = siftDown L.lt hi first r A') (L.sz - lo) ⟨lo, A, rfl, rfl, rfl, rfl, rfl, hlo, f0, hR0⟩ ?_
  clear f0 hR0 hL
  rintro K n t h hn hx ⟨r, A', rfl, h2, h3, h4, h8, hr, f, hR⟩
  rw [siftDown] at hR
  have hret : ∀ t' h', R0 = A' → h' = h → K .ret t' h' := by
    rintro t' h' e rfl
    refine hx _ _ _ (by simp) ?_
    subst e
    simp (maxSteps := 2000000) (disch := omega) only [gw, Nat.reduceAdd, Nat.reduceMul]
    exact ⟨rfl, f.lh, f.keep⟩
  by_cases h1 : 2 * r + 1 ≥ hi
  · rw [dif_pos h1] at hR
    simp (maxSteps := 2000000) (disch := omega) only [gw, Nat.reduceAdd, Nat.reduceMul, h2, h3, h4, h8, ge_iff_le.1 h1]
    refine hx _ _ _ (by simp) ?_
    subst hR
    simp (maxSteps := 2000000) (disch := omega) only [gw, Nat.reduceAdd, Nat.reduceMul]
    exact ⟨rfl, f.lh, f.keep⟩
  · rw [dif_neg h1] at hR
    have h1' : ¬ hi ≤ 2 * r + 1 := h1
    by_cases h5 : 2 * r + 1 + 1 < hi
    · have hl := f.lessN (first + (2 * r + 1)) (first + (2 * r + 1) + 1) (by omega) (by omega)
      by_cases hlt : L.lt A'[first + (2 * r + 1)]! A'[first + (2 * r + 1) + 1]! = true
      · rw [if_pos (by simp [h5, hlt])] at hR
        rw [hlt] at hl
        have hl2 := f.lessN (first + r) (first + (2 * r + 1 + 1)) (by omega) (by omega)
        obtain ⟨h', hs, f'⟩ := f.swapN (first + r) (first + (2 * r + 1 + 1)) (by omega) (by omega)
        by_cases hlt2 : L.lt A'[first + r]! A'[first + (2 * r + 2)]! = true
        · rw [if_neg (by simp [hlt2]), dif_pos h5] at hR
          rw [show 2 * r + 1 + 1 = 2 * r + 2 from rfl, hlt2] at hl2
          simp (maxSteps := 2000000) (disch := omega) only [gw, Nat.reduceAdd, Nat.reduceMul, h2, h3, h4, h8, h1', h5, f.ldL, f.ldS, hl, hl2, hs]
          exact hn _ _ _ (by omega) ⟨2 * r + 2, _, rfl, h2, h3, h4, rfl, by omega, f', hR⟩
        · rw [if_pos (by simp [hlt2])] at hR
          rw [Bool.not_eq_true] at hlt2
          rw [show 2 * r + 1 + 1 = 2 * r + 2 from rfl, hlt2] at hl2
          simp (maxSteps := 2000000) (disch := omega) only [gw, Nat.reduceAdd, Nat.reduceMul, h2, h3, h4, h8, h1', h5, f.ldL, f.ldS, hl, hl2]
          exact hret _ _ hR rfl
      · rw [if_neg (by simp [hlt])] at hR
        rw [Bool.not_eq_true] at hlt
        rw [hlt] at hl
        have hl2 := f.lessN (first + r) (first + (2 * r + 1)) (by omega) (by omega)
        obtain ⟨h', hs, f'⟩ := f.swapN (first + r) (first + (2 * r + 1)) (by omega) (by omega)
        by_cases hlt2 : L.lt A'[first + r]! A'[first + (2 * r + 1)]! = true
        · rw [if_neg (by simp [hlt2])] at hR
          rw [hlt2] at hl2
          simp (maxSteps := 2000000) (disch := omega) only [gw, Nat.reduceAdd, Nat.reduceMul, h2, h3, h4, h8, h1', h5, f.ldL, f.ldS, hl, hl2, hs]
          exact hn _ _ _ (by omega) ⟨2 * r + 1, _, rfl, h2, h3, h4, rfl, by omega, f', hR⟩
        · rw [if_pos (by simp [hlt2])] at hR
          rw [Bool.not_eq_true] at hlt2
          rw [hlt2] at hl2
          simp (maxSteps := 2000000) (disch := omega) only [gw, Nat.reduceAdd, Nat.reduceMul, h2, h3, h4, h8, h1', h5, f.ldL, f.ldS, hl, hl2]
          exact hret _ _ hR rfl
    · rw [if_neg (by simp [h5])] at hR
      have hl2 := f.lessN (first + r) (first + (2 * r + 1)) (by omega) (by omega)
      obtain ⟨h', hs, f'⟩ := f.swapN (first + r) (first + (2 * r + 1)) (by omega) (by omega)
      by_cases hlt2 : L.lt A'[first + r]! A'[first + (2 * r + 1)]! = true
      · rw [if_neg (by simp [hlt2])] at hR
        rw [hlt2] at hl2
        simp (maxSteps := 2000000) (disch := omega) only [gw, Nat.reduceAdd, Nat.reduceMul, h2, h3, h4, h8, h1', h5, f.ldL, f.ldS, hl2, hs]
        exact hn _ _ _ (by omega) ⟨2 * r + 1, _, rfl, h2, h3, h4, rfl, by omega, f', hR⟩
      · rw [if_pos (by simp [hlt2])] at hR
        rw [Bool.not_eq_true] at hlt2
        rw [hlt2] at hl2
        simp (maxSteps := 2000000) (disch := omega) only [gw, Nat.reduceAdd, Nat.reduceMul, h2, h3, h4, h8, h1', h5, f.ldL, f.ldS, hl2]
        exact hret _ _ hR rfl

def c_sort_reverseRange_func : AFn := ⟨23, (.seq (.ops [(qS 3 (.box (.tmp 0)))]) (.seq (.ops [(qS 8 (.mv (.tmp 1))), (qS 6 (.mv (.tmp 8)))]) (.seq (.ops [(qS 9 (.mv (.tmp 2))), (qS 10 (.pu (.n (.ar .sub)) [(.tmp 9), (ic 1)])), (qS 7 (.mv (.tmp 10)))]) (.block 0 (.loop (.seq (.seq (.ops [(qS 11 (.mv (.tmp 6))), (qS 12 (.mv (.tmp 7))), (qS 13 (.pu (.n (.ar .lss)) [(.tmp 11), (.tmp 12)]))]) (.cond (.tmp 13) .skip (.exit 0))) (.block 1 (.seq (.ops [(qS 14 (.fieldA 1 (.tmp 3))), (qS 15 (.load 1 false (.tmp 14))), (qS 16 (.mv (.tmp 6))), (qS 17 (.mv (.tmp 7))), (qS 18 (.dyn (.tmp 15) [(.tmp 16), (.tmp 17)]))]) (.seq (.ops [(qS 19 (.mv (.tmp 6))), (qS 20 (.pu (.n (.ar .add)) [(.tmp 19), (ic 1)])), (qS 6 (.mv (.tmp 20)))]) (.ops [(qS 21 (.mv (.tmp 7))), (qS 22 (.pu (.n (.ar .sub)) [(.tmp 21), (ic 1)])), (qS 7 (.mv (.tmp 22)))])))))))))), []⟩

theorem W_reverseRange {L : LS env α} {H : Heap} {A : Array α} (hL : L.Lh H A) (a b : Nat) (hb : b ≤ L.sz) (hab : a < b) :
    R P env c_sort_reverseRange_func [.agg [L.less, L.swap], nV a, nV b] H (PostS L H (reverseRange A a b) (.tup [])) := by
  have big := L.big
  refine R_of (by simp [c_sort_reverseRange_func]) ?_
  unfold c_sort_reverseRange_func
  have f0 := Fr.start hL
  simp (maxSteps := 2000000) (disch := omega) only [gw, Nat.reduceAdd, Nat.reduceMul, L.oneL, L.oneS]
  generalize H ++ [.cells [L.less, L.swap]] = h0 at f0 ⊢
  generalize H.length = B at f0 ⊢
  obtain ⟨R0, hR0⟩ : ∃ R0, R0 = reverseRange A a b := ⟨_, rfl⟩
  rw [← hR0]
  refine W_loopK (fun n t h => ∃ i j A', n = j - i ∧ t 3 = .ptr B 2 0 ∧ t 6 = nV i ∧ t 7 = nV j ∧ i ≤ L.sz ∧ j < L.sz ∧ Fr L H B h A' ∧ R0 = reverseLoop i j A') (b - 1 - a) ⟨a, b - 1, A, rfl, rfl, rfl, rfl, by omega, by omega, f0, hR0⟩ ?_
  clear f0 hR0 hL
  rintro K n t h hn hx ⟨i, j, A', rfl, h3, h6, h7, hi, hj, f, hR⟩
  rw [reverseLoop] at hR
  by_cases hij : i < j
  · rw [if_pos hij] at hR
    obtain ⟨h', hs, f'⟩ := f.swapN i j (by omega) (by omega)
    simp (maxSteps := 2000000) (disch := omega) only [gw, Nat.reduceAdd, Nat.reduceMul, h3, h6, h7, hij, f.ldS, hs]
    exact hn _ _ _ (by omega) ⟨i + 1, j - 1, _, rfl, h3, rfl, rfl, by omega, by omega, f', hR⟩
  · rw [if_neg hij] at hR
    simp (maxSteps := 2000000) (disch := omega) only [gw, Nat.reduceAdd, Nat.reduceMul, h3, h6, h7, hij]
    refine hx _ _ _ (by simp) ?_
    subst hR
    simp (maxSteps := 2000000) (disch := omega) only [gw, Nat.reduceAdd, Nat.reduceMul]
    exact ⟨rfl, f.lh, f.keep⟩
end Go.AM

set_option linter.unusedVariables false
set_option linter.unusedSimpArgs false
set_option maxRecDepth 20000
namespace Go.AM
open Go.Sort
variable {P : Program} {env : Env} {α : Type} [Inhabited α]

theorem Fr.ldB {L : LS env α} {H h : Heap} {B : Nat} {A : Array α} (f : Fr L H B h A) : stepLoad 2 true h (.ptr B 2 0) = some (.agg [L.less, L.swap]) := by
  simp [stepLoad, f.cellsB, rowV]
theorem nI_div2 {a : Nat} : Int.tdiv (a : Int) 2 = ((a / 2 : Nat) : Int) := rfl
theorem nI_div4 {a : Nat} : Int.tdiv (a : Int) 4 = ((a / 4 : Nat) : Int) := rfl
theorem nI_div8 {a : Nat} : Int.tdiv (a : Int) 8 = ((a / 8 : Nat) : Int) := rfl
theorem PostS.next {L : LS env α} {H h h' : Heap} {B : Nat} {A A' : Array α} {v0 v : V} (f : Fr L H B h A) (p : PostS L h A' v0 v h') : Fr L H B h' A' := f.next p.lh p.keep

theorem d01 : decide ((0 : Int) ≤ -1) = false := rfl

/-- A call of a function of the sort that gives no value. -/
def CS (L : LS env α) (c : Nat) (args : List V) (H : Heap) (A' : Array α) (v0 : V) : Prop := ∃ h', env c none args H = some (v0, h') ∧ L.Lh h' A' ∧ KeepS L.n H h'

theorem CS.of {L : LS env α} {c : Nat} {args : List V} {H : Heap} {A' : Array α} {v0 : V} {F : AFn} (he : ∀ H, env c none args H = runIn P env F none args H) (h : R P env F args H (PostS L H A' v0)) : CS L c args H A' v0 := by
  obtain ⟨⟨v, h'⟩, h1, h2⟩ := h
  have p : PostS L H A' v0 v h' := h2
  refine ⟨h', ?_, p.lh, p.keep⟩
  rw [he]
  exact h1.trans (by rw [p.val])

def c_sort_heapSort_func (f_sort_siftDown_func : Nat) : AFn := ⟨45, (.seq (.ops [(qS 3 (.box (.tmp 0)))]) (.seq (.ops [(qS 11 (.mv (.tmp 1))), (qS 6 (.mv (.tmp 11)))]) (.seq (.ops [(qS 7 (.mv (ic 0)))]) (.seq (.ops [(qS 12 (.mv (.tmp 2))), (qS 13 (.mv (.tmp 1))), (qS 14 (.pu (.n (.ar .sub)) [(.tmp 12), (.tmp 13)])), (qS 8 (.mv (.tmp 14)))]) (.seq (.seq (.ops [(qS 15 (.mv (.tmp 8))), (qS 16 (.pu (.n (.ar .sub)) [(.tmp 15), (ic 1)])), (qS 17 (.pu (.n (.ar .quo)) [(.tmp 16), (ic 2)])), (qS 9 (.mv (.tmp 17)))]) (.block 0 (.loop (.seq (.seq (.ops [(qS 18 (.mv (.tmp 9))), (qS 19 (.pu (.n (.ar .geq)) [(.tmp 18), (ic 0)]))]) (.cond (.tmp 19) .skip (.exit 0))) (.seq (.block 1 (.ops [(qS 22 (.load 2 true (.tmp 3))), (qS 23 (.mv (.tmp 9))), (qS 24 (.mv (.tmp 8))), (qS 25 (.mv (.tmp 6))), (qS 26 (.call (2 * f_sort_siftDown_func + 1) [(.tmp 22), (.tmp 23), (.tmp 24), (.tmp 25)]))])) (.ops [(qS 20 (.mv (.tmp 9))), (qS 21 (.pu (.n (.ar .sub)) [(.tmp 20), (ic 1)])), (qS 9 (.mv (.tmp 21)))])))))) (.seq (.ops [(qS 27 (.mv (.tmp 8))), (qS 28 (.pu (.n (.ar .sub)) [(.tmp 27), (ic 1)])), (qS 10 (.mv (.tmp 28)))]) (.block 2 (.loop (.seq (.seq (.ops [(qS 29 (.mv (.tmp 10))), (qS 30 (.pu (.n (.ar .geq)) [(.tmp 29), (ic 0)]))]) (.cond (.tmp 30) .skip (.exit 2))) (.seq (.block 3 (.seq (.ops [(qS 33 (.fieldA 1 (.tmp 3))), (qS 34 (.load 1 false (.tmp 33))), (qS 35 (.mv (.tmp 6))), (qS 36 (.mv (.tmp 6))), (qS 37 (.mv (.tmp 10))), (qS 38 (.pu (.n (.ar .add)) [(.tmp 36), (.tmp 37)])), (qS 39 (.dyn (.tmp 34) [(.tmp 35), (.tmp 38)]))]) (.ops [(qS 40 (.load 2 true (.tmp 3))), (qS 41 (.mv (.tmp 7))), (qS 42 (.mv (.tmp 10))), (qS 43 (.mv (.tmp 6))), (qS 44 (.call (2 * f_sort_siftDown_func + 1) [(.tmp 40), (.tmp 41), (.tmp 42), (.tmp 43)]))]))) (.ops [(qS 31 (.mv (.tmp 10))), (qS 32 (.pu (.n (.ar .sub)) [(.tmp 31), (ic 1)])), (qS 10 (.mv (.tmp 32)))]))))))))))), []⟩

theorem W_heapSort {L : LS env α} {fS : Nat} (kd : ∀ {H A}, L.Lh H A → ∀ lo hi first : Nat, first + hi ≤ L.sz → lo ≤ L.sz → CS L (2 * fS + 1) [.agg [L.less, L.swap], nV lo, nV hi, nV first] H (siftDown L.lt hi first lo A) (.tup []))
    {H : Heap} {A : Array α} (hL : L.Lh H A) (a b : Nat) (hb : b ≤ L.sz) (hab : a + 2 ≤ b) :
    R P env (c_sort_heapSort_func fS) [.agg [L.less, L.swap], nV a, nV b] H (PostS L H (heapSort L.lt A a b) (.tup [])) := by
  have big := L.big
  refine R_of (by simp [c_sort_heapSort_func]) ?_
  unfold c_sort_heapSort_func
  have f0 := Fr.start hL
  simp (maxSteps := 2000000) (disch := omega) only [gw, Nat.reduceAdd, Nat.reduceMul, L.oneL, L.oneS, nI_div2]
  generalize H ++ [.cells [L.less, L.swap]] = h0 at f0 ⊢
  generalize H.length = B at f0 ⊢
  obtain ⟨R0, hR0⟩ : ∃ R0, R0 = heapSort L.lt A a b := ⟨_, rfl⟩
  rw [← hR0]
  unfold heapSort at hR0
  obtain ⟨m, hm⟩ : ∃ m, m = b - a := ⟨_, rfl⟩
  rw [← hm] at hR0 ⊢
  refine W_loopK (fun n t h => ∃ k A' z, k = n ∧ t 3 = .ptr B 2 0 ∧ t 6 = nV a ∧ t 7 = nV 0 ∧ t 8 = nV m ∧ t 9 = .i (.s (.int .i64 z)) ∧ z = (k : Int) - 1 ∧ k ≤ m ∧ Fr L H B h A' ∧ R0 = heapPop L.lt a m (heapBuild L.lt m a k A')) ((m - 1) / 2 + 1) ⟨_, A, _, rfl, rfl, rfl, rfl, rfl, rfl, by omega, by omega, f0, hR0⟩ ?_
  clear f0 hR0 hL
  rintro K n t h hn hx ⟨k, A', z, rfl, h3, h6, h7, h8, h9, hz, hk, f, hR⟩
  cases k with
  | succ k =>
    have hz2 : z = (k : Int) := by omega
    have hz0 : (0 : Int) ≤ (k : Int) := by omega
    subst hz2
    obtain ⟨h', hc, l2, k2⟩ := kd f.lh k m a (by omega) (by omega)
    simp (maxSteps := 2000000) (disch := omega) only [gw, Nat.reduceAdd, Nat.reduceMul, h3, h6, h7, h8, h9, hz0, f.ldB, hc]
    exact hn _ _ _ (by omega) ⟨k, _, _, rfl, h3, h6, h7, h8, rfl, rfl, by omega, f.next l2 k2, hR⟩
  | zero =>
    have hz2 : z = -1 := by omega
    subst hz2
    simp (maxSteps := 2000000) (disch := omega) only [gw, Nat.reduceAdd, Nat.reduceMul, h3, h6, h7, h8, h9, d01]
    refine hx _ _ _ (by simp) ?_
    simp (maxSteps := 2000000) (disch := omega) only [gw, Nat.reduceAdd, Nat.reduceMul, h3, h6, h7, h8, h9]
    clear hn hx
    refine W_loopK (fun n t h => ∃ k A' z, k = n ∧ t 3 = .ptr B 2 0 ∧ t 6 = nV a ∧ t 7 = nV 0 ∧ t 10 = .i (.s (.int .i64 z)) ∧ z = (k : Int) - 1 ∧ k ≤ m ∧ Fr L H B h A' ∧ R0 = heapPop L.lt a k A') m ⟨m, A', _, rfl, h3, h6, h7, rfl, by omega, by omega, f, hR⟩ ?_
    clear f hR h3 h6 h7 h8 h9 hz hk t h
    rintro K2 n t h hn hx ⟨k, A2, z, rfl, h3, h6, h7, h10, hz, hk, f, hR⟩
    cases k with
    | succ k =>
      have hz2 : z = (k : Int) := by omega
      have hz0 : (0 : Int) ≤ (k : Int) := by omega
      subst hz2
      obtain ⟨h1, hs, f1⟩ := f.swapN a (a + k) (by omega) (by omega)
      obtain ⟨h', hc, l2, k2⟩ := kd f1.lh 0 k a (by omega) (by omega)
      simp (maxSteps := 2000000) (disch := omega) only [gw, Nat.reduceAdd, Nat.reduceMul, h3, h6, h7, h10, hz0, f.ldS, hs, f1.ldB, hc]
      exact hn _ _ _ (by omega) ⟨k, _, _, rfl, h3, h6, h7, rfl, rfl, by omega, f1.next l2 k2, hR⟩
    | zero =>
      have hz2 : z = -1 := by omega
      subst hz2
      simp (maxSteps := 2000000) (disch := omega) only [gw, Nat.reduceAdd, Nat.reduceMul, h3, h6, h7, h10, d01]
      refine hx _ _ _ (by simp) ?_
      subst hR
      simp (maxSteps := 2000000) (disch := omega) only [gw, Nat.reduceAdd, Nat.reduceMul]
      exact ⟨rfl, f.lh, f.keep⟩
end Go.AM

set_option linter.unusedVariables false
set_option linter.unusedSimpArgs false
set_option maxRecDepth 20000
namespace Go.AM
open Go.Sort
variable {P : Program} {env : Env} {α : Type} [Inhabited α]

theorem scanE2 {L : LS env α} {Q : Post} {H h : Heap} {B : Nat} {A : Array α} {t : Nat → V} (f : Fr L H B h A) {a i j : Nat} (g1 : t 1 = nV a) (g4 : t 4 = .ptr B 2 0) (gi : t 9 = nV i) (gj : t 10 = nV j) (ha : a < L.sz) (hj : j < L.sz)
    (hQ : ∀ t', t' 1 = nV a → t' 4 = .ptr B 2 0 → t' 9 = nV (scanUp (fun x => !L.lt A[a]! x) A j i) → t' 10 = nV j → Q (.exit 2) t' h) : @W P env ⟨(.loop (.seq (.seq (.ops [(qS 20 (.mv (.tmp 9))), (qS 21 (.mv (.tmp 10))), (qS 22 (.pu (.n (.ar .leq)) [(.tmp 20), (.tmp 21)])), (qS 23 (.mv (.tmp 22))), ⟨(.some 24), (.fieldA 0 (.tmp 4)), (.some (23, true)), [], .none⟩, ⟨(.some 25), (.load 1 false (.tmp 24)), (.some (23, true)), [], .none⟩, ⟨(.some 26), (.mv (.tmp 1)), (.some (23, true)), [], .none⟩, ⟨(.some 27), (.mv (.tmp 9)), (.some (23, true)), [], .none⟩, ⟨(.some 28), (.dyn (.tmp 25) [(.tmp 26), (.tmp 27)]), (.some (23, true)), [], .none⟩, ⟨(.some 29), (.pu (.n (.un .not)) [(.tmp 28)]), (.some (23, true)), [], .none⟩, (qS 30 (.pick (.tmp 23) (.tmp 29) (.const (.bool false))))]) (.cond (.tmp 30) .skip (.exit 2))) (.block 3 (.ops [(qS 31 (.mv (.tmp 9))), (qS 32 (.pu (.n (.ar .add)) [(.tmp 31), (ic 1)])), (qS 9 (.mv (.tmp 32)))]))))⟩ t h ⟨Q⟩ := by
  have big := L.big
  obtain ⟨S, hS⟩ : ∃ S, S = scanUp (fun x => !L.lt A[a]! x) A j i := ⟨_, rfl⟩
  rw [← hS] at hQ
  refine W_loopK (fun n t h' => ∃ i', n = j + 1 - i' ∧ h' = h ∧ t 1 = nV a ∧ t 4 = .ptr B 2 0 ∧ t 9 = nV i' ∧ t 10 = nV j ∧ S = scanUp (fun x => !L.lt A[a]! x) A j i') (j + 1 - i) ⟨i, rfl, rfl, g1, g4, gi, gj, hS⟩ ?_
  clear g1 g4 gi gj hS
  rintro K n t h' hn hx ⟨i', rfl, rfl, g1, g4, gi, gj, hS⟩
  rw [scanUp] at hS
  by_cases hij : i' ≤ j
  · have hl := f.lessN a i' (by omega) (by omega)
    by_cases hp : L.lt A[a]! A[i']! = true
    · rw [hp] at hl
      rw [if_neg (by simp [hp])] at hS
      simp (maxSteps := 2000000) (disch := omega) only [gw, Nat.reduceAdd, Nat.reduceMul, g1, g4, gi, gj, hij, f.ldL, hl]
      exact hx _ _ _ (by simp) (hQ _ g1 g4 (by rw [hS]; exact gi) gj)
    · rw [Bool.not_eq_true] at hp
      rw [hp] at hl
      rw [if_pos (by simp [hij, hp])] at hS
      simp (maxSteps := 2000000) (disch := omega) only [gw, Nat.reduceAdd, Nat.reduceMul, g1, g4, gi, gj, hij, f.ldL, hl]
      exact hn _ _ _ (by omega) ⟨i' + 1, rfl, rfl, g1, g4, rfl, gj, hS⟩
  · rw [if_neg (by simp [hij])] at hS
    simp (maxSteps := 2000000) (disch := omega) only [gw, Nat.reduceAdd, Nat.reduceMul, g1, g4, gi, gj, hij]
    exact hx _ _ _ (by simp) (hQ _ g1 g4 (by rw [hS]; exact gi) gj)

theorem scanE4 {L : LS env α} {Q : Post} {H h : Heap} {B : Nat} {A : Array α} {t : Nat → V} (f : Fr L H B h A) {a i j : Nat} (g1 : t 1 = nV a) (g4 : t 4 = .ptr B 2 0) (gi : t 9 = nV i) (gj : t 10 = nV j) (ha : a < L.sz) (hj : j < L.sz) (hi : 1 ≤ i) (hi2 : i ≤ L.sz)
    (hQ : ∀ t', t' 1 = nV a → t' 4 = .ptr B 2 0 → t' 9 = nV i → t' 10 = nV (scanDown (fun x => L.lt A[a]! x) A i j) → Q (.exit 4) t' h) : @W P env ⟨(.loop (.seq (.seq (.ops [(qS 33 (.mv (.tmp 9))), (qS 34 (.mv (.tmp 10))), (qS 35 (.pu (.n (.ar .leq)) [(.tmp 33), (.tmp 34)])), (qS 36 (.mv (.tmp 35))), ⟨(.some 37), (.fieldA 0 (.tmp 4)), (.some (36, true)), [], .none⟩, ⟨(.some 38), (.load 1 false (.tmp 37)), (.some (36, true)), [], .none⟩, ⟨(.some 39), (.mv (.tmp 1)), (.some (36, true)), [], .none⟩, ⟨(.some 40), (.mv (.tmp 10)), (.some (36, true)), [], .none⟩, ⟨(.some 41), (.dyn (.tmp 38) [(.tmp 39), (.tmp 40)]), (.some (36, true)), [], .none⟩, (qS 42 (.pick (.tmp 36) (.tmp 41) (.const (.bool false))))]) (.cond (.tmp 42) .skip (.exit 4))) (.block 5 (.ops [(qS 43 (.mv (.tmp 10))), (qS 44 (.pu (.n (.ar .sub)) [(.tmp 43), (ic 1)])), (qS 10 (.mv (.tmp 44)))]))))⟩ t h ⟨Q⟩ := by
  have big := L.big
  obtain ⟨S, hS⟩ : ∃ S, S = scanDown (fun x => L.lt A[a]! x) A i j := ⟨_, rfl⟩
  rw [← hS] at hQ
  refine W_loopK (fun n t h' => ∃ j', j' = n ∧ h' = h ∧ t 1 = nV a ∧ t 4 = .ptr B 2 0 ∧ t 9 = nV i ∧ t 10 = nV j' ∧ j' < L.sz ∧ S = scanDown (fun x => L.lt A[a]! x) A i j') j ⟨j, rfl, rfl, g1, g4, gi, gj, hj, hS⟩ ?_
  clear g1 g4 gi gj hS hj
  rintro K n t h' hn hx ⟨j', rfl, rfl, g1, g4, gi, gj, hj, hS⟩
  by_cases hij : i ≤ j'
  · obtain ⟨k, rfl⟩ : ∃ k, j' = k + 1 := ⟨j' - 1, by omega⟩
    rw [scanDown] at hS
    have hl := f.lessN a (k + 1) (by omega) (by omega)
    by_cases hp : L.lt A[a]! A[(k + 1)]! = true
    · rw [hp] at hl
      rw [if_pos (by simp [hij, hp])] at hS
      simp (maxSteps := 2000000) (disch := omega) only [gw, Nat.reduceAdd, Nat.reduceMul, g1, g4, gi, gj, hij, f.ldL, hl, Nat.add_sub_cancel]
      exact hn _ _ _ (by omega) ⟨k, rfl, rfl, g1, g4, gi, rfl, by omega, hS⟩
    · rw [Bool.not_eq_true] at hp
      rw [hp] at hl
      rw [if_neg (by simp [hp])] at hS
      simp (maxSteps := 2000000) (disch := omega) only [gw, Nat.reduceAdd, Nat.reduceMul, g1, g4, gi, gj, hij, f.ldL, hl, Nat.add_sub_cancel]
      exact hx _ _ _ (by simp) (hQ _ g1 g4 gi (by rw [hS]; exact gj))
  · have hS2 : S = j' := by
      rw [hS]
      cases j' with
      | zero => rfl
      | succ k => rw [scanDown, if_neg (by simp [hij])]
    simp (maxSteps := 2000000) (disch := omega) only [gw, Nat.reduceAdd, Nat.reduceMul, g1, g4, gi, gj, hij]
    exact hx _ _ _ (by simp) (hQ _ g1 g4 gi (by rw [hS2]; exact gj))

theorem scanP0 {L : LS env α} {Q : Post} {H h : Heap} {B : Nat} {A : Array α} {t : Nat → V} (f : Fr L H B h A) {a i j : Nat} (g1 : t 1 = nV a) (g4 : t 4 = .ptr B 2 0) (gi : t 10 = nV i) (gj : t 11 = nV j) (ha : a < L.sz) (hj : j < L.sz)
    (hQ : ∀ t', t' 1 = nV a → t' 4 = .ptr B 2 0 → t' 10 = nV (scanUp (fun x => L.lt x A[a]!) A j i) → t' 11 = nV j → Q (.exit 0) t' h) : @W P env ⟨(.loop (.seq (.seq (.ops [(qS 21 (.mv (.tmp 10))), (qS 22 (.mv (.tmp 11))), (qS 23 (.pu (.n (.ar .leq)) [(.tmp 21), (.tmp 22)])), (qS 24 (.mv (.tmp 23))), ⟨(.some 25), (.fieldA 0 (.tmp 4)), (.some (24, true)), [], .none⟩, ⟨(.some 26), (.load 1 false (.tmp 25)), (.some (24, true)), [], .none⟩, ⟨(.some 27), (.mv (.tmp 10)), (.some (24, true)), [], .none⟩, ⟨(.some 28), (.mv (.tmp 1)), (.some (24, true)), [], .none⟩, ⟨(.some 29), (.dyn (.tmp 26) [(.tmp 27), (.tmp 28)]), (.some (24, true)), [], .none⟩, (qS 30 (.pick (.tmp 24) (.tmp 29) (.const (.bool false))))]) (.cond (.tmp 30) .skip (.exit 0))) (.block 1 (.ops [(qS 31 (.mv (.tmp 10))), (qS 32 (.pu (.n (.ar .add)) [(.tmp 31), (ic 1)])), (qS 10 (.mv (.tmp 32)))]))))⟩ t h ⟨Q⟩ := by
  have big := L.big
  obtain ⟨S, hS⟩ : ∃ S, S = scanUp (fun x => L.lt x A[a]!) A j i := ⟨_, rfl⟩
  rw [← hS] at hQ
  refine W_loopK (fun n t h' => ∃ i', n = j + 1 - i' ∧ h' = h ∧ t 1 = nV a ∧ t 4 = .ptr B 2 0 ∧ t 10 = nV i' ∧ t 11 = nV j ∧ S = scanUp (fun x => L.lt x A[a]!) A j i') (j + 1 - i) ⟨i, rfl, rfl, g1, g4, gi, gj, hS⟩ ?_
  clear g1 g4 gi gj hS
  rintro K n t h' hn hx ⟨i', rfl, rfl, g1, g4, gi, gj, hS⟩
  rw [scanUp] at hS
  by_cases hij : i' ≤ j
  · have hl := f.lessN i' a (by omega) (by omega)
    by_cases hp : L.lt A[i']! A[a]! = true
    · rw [hp] at hl
      rw [if_pos (by simp [hij, hp])] at hS
      simp (maxSteps := 2000000) (disch := omega) only [gw, Nat.reduceAdd, Nat.reduceMul, g1, g4, gi, gj, hij, f.ldL, hl]
      exact hn _ _ _ (by omega) ⟨i' + 1, rfl, rfl, g1, g4, rfl, gj, hS⟩
    · rw [Bool.not_eq_true] at hp
      rw [hp] at hl
      rw [if_neg (by simp [hp])] at hS
      simp (maxSteps := 2000000) (disch := omega) only [gw, Nat.reduceAdd, Nat.reduceMul, g1, g4, gi, gj, hij, f.ldL, hl]
      exact hx _ _ _ (by simp) (hQ _ g1 g4 (by rw [hS]; exact gi) gj)
  · rw [if_neg (by simp [hij])] at hS
    simp (maxSteps := 2000000) (disch := omega) only [gw, Nat.reduceAdd, Nat.reduceMul, g1, g4, gi, gj, hij]
    exact hx _ _ _ (by simp) (hQ _ g1 g4 (by rw [hS]; exact gi) gj)

theorem scanP2 {L : LS env α} {Q : Post} {H h : Heap} {B : Nat} {A : Array α} {t : Nat → V} (f : Fr L H B h A) {a i j : Nat} (g1 : t 1 = nV a) (g4 : t 4 = .ptr B 2 0) (gi : t 10 = nV i) (gj : t 11 = nV j) (ha : a < L.sz) (hj : j < L.sz) (hi : 1 ≤ i) (hi2 : i ≤ L.sz)
    (hQ : ∀ t', t' 1 = nV a → t' 4 = .ptr B 2 0 → t' 10 = nV i → t' 11 = nV (scanDown (fun x => !L.lt x A[a]!) A i j) → Q (.exit 2) t' h) : @W P env ⟨(.loop (.seq (.seq (.ops [(qS 33 (.mv (.tmp 10))), (qS 34 (.mv (.tmp 11))), (qS 35 (.pu (.n (.ar .leq)) [(.tmp 33), (.tmp 34)])), (qS 36 (.mv (.tmp 35))), ⟨(.some 37), (.fieldA 0 (.tmp 4)), (.some (36, true)), [], .none⟩, ⟨(.some 38), (.load 1 false (.tmp 37)), (.some (36, true)), [], .none⟩, ⟨(.some 39), (.mv (.tmp 11)), (.some (36, true)), [], .none⟩, ⟨(.some 40), (.mv (.tmp 1)), (.some (36, true)), [], .none⟩, ⟨(.some 41), (.dyn (.tmp 38) [(.tmp 39), (.tmp 40)]), (.some (36, true)), [], .none⟩, ⟨(.some 42), (.pu (.n (.un .not)) [(.tmp 41)]), (.some (36, true)), [], .none⟩, (qS 43 (.pick (.tmp 36) (.tmp 42) (.const (.bool false))))]) (.cond (.tmp 43) .skip (.exit 2))) (.block 3 (.ops [(qS 44 (.mv (.tmp 11))), (qS 45 (.pu (.n (.ar .sub)) [(.tmp 44), (ic 1)])), (qS 11 (.mv (.tmp 45)))]))))⟩ t h ⟨Q⟩ := by
  have big := L.big
  obtain ⟨S, hS⟩ : ∃ S, S = scanDown (fun x => !L.lt x A[a]!) A i j := ⟨_, rfl⟩
  rw [← hS] at hQ
  refine W_loopK (fun n t h' => ∃ j', j' = n ∧ h' = h ∧ t 1 = nV a ∧ t 4 = .ptr B 2 0 ∧ t 10 = nV i ∧ t 11 = nV j' ∧ j' < L.sz ∧ S = scanDown (fun x => !L.lt x A[a]!) A i j') j ⟨j, rfl, rfl, g1, g4, gi, gj, hj, hS⟩ ?_
  clear g1 g4 gi gj hS hj
  rintro K n t h' hn hx ⟨j', rfl, rfl, g1, g4, gi, gj, hj, hS⟩
  by_cases hij : i ≤ j'
  · obtain ⟨k, rfl⟩ : ∃ k, j' = k + 1 := ⟨j' - 1, by omega⟩
    rw [scanDown] at hS
    have hl := f.lessN (k + 1) a (by omega) (by omega)
    by_cases hp : L.lt A[(k + 1)]! A[a]! = true
    · rw [hp] at hl
      rw [if_neg (by simp [hp])] at hS
      simp (maxSteps := 2000000) (disch := omega) only [gw, Nat.reduceAdd, Nat.reduceMul, g1, g4, gi, gj, hij, f.ldL, hl, Nat.add_sub_cancel]
      exact hx _ _ _ (by simp) (hQ _ g1 g4 gi (by rw [hS]; exact gj))
    · rw [Bool.not_eq_true] at hp
      rw [hp] at hl
      rw [if_pos (by simp [hij, hp])] at hS
      simp (maxSteps := 2000000) (disch := omega) only [gw, Nat.reduceAdd, Nat.reduceMul, g1, g4, gi, gj, hij, f.ldL, hl, Nat.add_sub_cancel]
      exact hn _ _ _ (by omega) ⟨k, rfl, rfl, g1, g4, gi, rfl, by omega, hS⟩
  · have hS2 : S = j' := by
      rw [hS]
      cases j' with
      | zero => rfl
      | succ k => rw [scanDown, if_neg (by simp [hij])]
    simp (maxSteps := 2000000) (disch := omega) only [gw, Nat.reduceAdd, Nat.reduceMul, g1, g4, gi, gj, hij]
    exact hx _ _ _ (by simp) (hQ _ g1 g4 gi (by rw [hS2]; exact gj))

theorem scanP6 {L : LS env α} {Q : Post} {H h : Heap} {B : Nat} {A : Array α} {t : Nat → V} (f : Fr L H B h A) {a i j : Nat} (g1 : t 1 = nV a) (g4 : t 4 = .ptr B 2 0) (gi : t 10 = nV i) (gj : t 11 = nV j) (ha : a < L.sz) (hj : j < L.sz)
    (hQ : ∀ t', t' 1 = nV a → t' 4 = .ptr B 2 0 → t' 10 = nV (scanUp (fun x => L.lt x A[a]!) A j i) → t' 11 = nV j → Q (.exit 6) t' h) : @W P env ⟨(.loop (.seq (.seq (.ops [(qS 64 (.mv (.tmp 10))), (qS 65 (.mv (.tmp 11))), (qS 66 (.pu (.n (.ar .leq)) [(.tmp 64), (.tmp 65)])), (qS 67 (.mv (.tmp 66))), ⟨(.some 68), (.fieldA 0 (.tmp 4)), (.some (67, true)), [], .none⟩, ⟨(.some 69), (.load 1 false (.tmp 68)), (.some (67, true)), [], .none⟩, ⟨(.some 70), (.mv (.tmp 10)), (.some (67, true)), [], .none⟩, ⟨(.some 71), (.mv (.tmp 1)), (.some (67, true)), [], .none⟩, ⟨(.some 72), (.dyn (.tmp 69) [(.tmp 70), (.tmp 71)]), (.some (67, true)), [], .none⟩, (qS 73 (.pick (.tmp 67) (.tmp 72) (.const (.bool false))))]) (.cond (.tmp 73) .skip (.exit 6))) (.block 7 (.ops [(qS 74 (.mv (.tmp 10))), (qS 75 (.pu (.n (.ar .add)) [(.tmp 74), (ic 1)])), (qS 10 (.mv (.tmp 75)))]))))⟩ t h ⟨Q⟩ := by
  have big := L.big
  obtain ⟨S, hS⟩ : ∃ S, S = scanUp (fun x => L.lt x A[a]!) A j i := ⟨_, rfl⟩
  rw [← hS] at hQ
  refine W_loopK (fun n t h' => ∃ i', n = j + 1 - i' ∧ h' = h ∧ t 1 = nV a ∧ t 4 = .ptr B 2 0 ∧ t 10 = nV i' ∧ t 11 = nV j ∧ S = scanUp (fun x => L.lt x A[a]!) A j i') (j + 1 - i) ⟨i, rfl, rfl, g1, g4, gi, gj, hS⟩ ?_
  clear g1 g4 gi gj hS
  rintro K n t h' hn hx ⟨i', rfl, rfl, g1, g4, gi, gj, hS⟩
  rw [scanUp] at hS
  by_cases hij : i' ≤ j
  · have hl := f.lessN i' a (by omega) (by omega)
    by_cases hp : L.lt A[i']! A[a]! = true
    · rw [hp] at hl
      rw [if_pos (by simp [hij, hp])] at hS
      simp (maxSteps := 2000000) (disch := omega) only [gw, Nat.reduceAdd, Nat.reduceMul, g1, g4, gi, gj, hij, f.ldL, hl]
      exact hn _ _ _ (by omega) ⟨i' + 1, rfl, rfl, g1, g4, rfl, gj, hS⟩
    · rw [Bool.not_eq_true] at hp
      rw [hp] at hl
      rw [if_neg (by simp [hp])] at hS
      simp (maxSteps := 2000000) (disch := omega) only [gw, Nat.reduceAdd, Nat.reduceMul, g1, g4, gi, gj, hij, f.ldL, hl]
      exact hx _ _ _ (by simp) (hQ _ g1 g4 (by rw [hS]; exact gi) gj)
  · rw [if_neg (by simp [hij])] at hS
    simp (maxSteps := 2000000) (disch := omega) only [gw, Nat.reduceAdd, Nat.reduceMul, g1, g4, gi, gj, hij]
    exact hx _ _ _ (by simp) (hQ _ g1 g4 (by rw [hS]; exact gi) gj)

theorem scanP8 {L : LS env α} {Q : Post} {H h : Heap} {B : Nat} {A : Array α} {t : Nat → V} (f : Fr L H B h A) {a i j : Nat} (g1 : t 1 = nV a) (g4 : t 4 = .ptr B 2 0) (gi : t 10 = nV i) (gj : t 11 = nV j) (ha : a < L.sz) (hj : j < L.sz) (hi : 1 ≤ i) (hi2 : i ≤ L.sz)
    (hQ : ∀ t', t' 1 = nV a → t' 4 = .ptr B 2 0 → t' 10 = nV i → t' 11 = nV (scanDown (fun x => !L.lt x A[a]!) A i j) → Q (.exit 8) t' h) : @W P env ⟨(.loop (.seq (.seq (.ops [(qS 76 (.mv (.tmp 10))), (qS 77 (.mv (.tmp 11))), (qS 78 (.pu (.n (.ar .leq)) [(.tmp 76), (.tmp 77)])), (qS 79 (.mv (.tmp 78))), ⟨(.some 80), (.fieldA 0 (.tmp 4)), (.some (79, true)), [], .none⟩, ⟨(.some 81), (.load 1 false (.tmp 80)), (.some (79, true)), [], .none⟩, ⟨(.some 82), (.mv (.tmp 11)), (.some (79, true)), [], .none⟩, ⟨(.some 83), (.mv (.tmp 1)), (.some (79, true)), [], .none⟩, ⟨(.some 84), (.dyn (.tmp 81) [(.tmp 82), (.tmp 83)]), (.some (79, true)), [], .none⟩, ⟨(.some 85), (.pu (.n (.un .not)) [(.tmp 84)]), (.some (79, true)), [], .none⟩, (qS 86 (.pick (.tmp 79) (.tmp 85) (.const (.bool false))))]) (.cond (.tmp 86) .skip (.exit 8))) (.block 9 (.ops [(qS 87 (.mv (.tmp 11))), (qS 88 (.pu (.n (.ar .sub)) [(.tmp 87), (ic 1)])), (qS 11 (.mv (.tmp 88)))]))))⟩ t h ⟨Q⟩ := by
  have big := L.big
  obtain ⟨S, hS⟩ : ∃ S, S = scanDown (fun x => !L.lt x A[a]!) A i j := ⟨_, rfl⟩
  rw [← hS] at hQ
  refine W_loopK (fun n t h' => ∃ j', j' = n ∧ h' = h ∧ t 1 = nV a ∧ t 4 = .ptr B 2 0 ∧ t 10 = nV i ∧ t 11 = nV j' ∧ j' < L.sz ∧ S = scanDown (fun x => !L.lt x A[a]!) A i j') j ⟨j, rfl, rfl, g1, g4, gi, gj, hj, hS⟩ ?_
  clear g1 g4 gi gj hS hj
  rintro K n t h' hn hx ⟨j', rfl, rfl, g1, g4, gi, gj, hj, hS⟩
  by_cases hij : i ≤ j'
  · obtain ⟨k, rfl⟩ : ∃ k, j' = k + 1 := ⟨j' - 1, by omega⟩
    rw [scanDown] at hS
    have hl := f.lessN (k + 1) a (by omega) (by omega)
    by_cases hp : L.lt A[(k + 1)]! A[a]! = true
    · rw [hp] at hl
      rw [if_neg (by simp [hp])] at hS
      simp (maxSteps := 2000000) (disch := omega) only [gw, Nat.reduceAdd, Nat.reduceMul, g1, g4, gi, gj, hij, f.ldL, hl, Nat.add_sub_cancel]
      exact hx _ _ _ (by simp) (hQ _ g1 g4 gi (by rw [hS]; exact gj))
    · rw [Bool.not_eq_true] at hp
      rw [hp] at hl
      rw [if_pos (by simp [hij, hp])] at hS
      simp (maxSteps := 2000000) (disch := omega) only [gw, Nat.reduceAdd, Nat.reduceMul, g1, g4, gi, gj, hij, f.ldL, hl, Nat.add_sub_cancel]
      exact hn _ _ _ (by omega) ⟨k, rfl, rfl, g1, g4, gi, rfl, by omega, hS⟩
  · have hS2 : S = j' := by
      rw [hS]
      cases j' with
      | zero => rfl
      | succ k => rw [scanDown, if_neg (by simp [hij])]
    simp (maxSteps := 2000000) (disch := omega) only [gw, Nat.reduceAdd, Nat.reduceMul, g1, g4, gi, gj, hij]
    exact hx _ _ _ (by simp) (hQ _ g1 g4 gi (by rw [hS2]; exact gj))

end Go.AM

set_option linter.unusedVariables false
set_option linter.unusedSimpArgs false
set_option maxRecDepth 20000
namespace Go.AM
open Go.Sort
variable {P : Program} {env : Env} {α : Type} [Inhabited α]

theorem scanUp_max (p : α → Bool) (d : Array α) {i j n : Nat} (hi : i ≤ n) (hj : j < n) : scanUp p d j i ≤ n := by
  by_cases h : i ≤ j + 1
  · have := (scanUp_spec p d j _ i rfl).2.1 h
    omega
  · rw [scanUp, if_neg (by simp; omega)]
    exact hi

theorem loopE0 {L : LS env α} {Q : Post} {H h : Heap} {B : Nat} {A : Array α} {t : Nat → V} (f : Fr L H B h A) {a i j : Nat} (g1 : t 1 = nV a) (g4 : t 4 = .ptr B 2 0) (gi : t 9 = nV i) (gj : t 10 = nV j) (ha : a < L.sz) (hj : j < L.sz) (hi : 1 ≤ i) (hi2 : i ≤ L.sz)
    (hQ : ∀ t' h', t' 1 = nV a → t' 4 = .ptr B 2 0 → t' 9 = nV (partEqLoop L.lt a i j A).1 → Fr L H B h' (partEqLoop L.lt a i j A).2 → Q (.exit 0) t' h') : @W P env ⟨(.loop (.block 1 (.seq (.block 2 (.loop (.seq (.seq (.ops [(qS 20 (.mv (.tmp 9))), (qS 21 (.mv (.tmp 10))), (qS 22 (.pu (.n (.ar .leq)) [(.tmp 20), (.tmp 21)])), (qS 23 (.mv (.tmp 22))), ⟨(.some 24), (.fieldA 0 (.tmp 4)), (.some (23, true)), [], .none⟩, ⟨(.some 25), (.load 1 false (.tmp 24)), (.some (23, true)), [], .none⟩, ⟨(.some 26), (.mv (.tmp 1)), (.some (23, true)), [], .none⟩, ⟨(.some 27), (.mv (.tmp 9)), (.some (23, true)), [], .none⟩, ⟨(.some 28), (.dyn (.tmp 25) [(.tmp 26), (.tmp 27)]), (.some (23, true)), [], .none⟩, ⟨(.some 29), (.pu (.n (.un .not)) [(.tmp 28)]), (.some (23, true)), [], .none⟩, (qS 30 (.pick (.tmp 23) (.tmp 29) (.const (.bool false))))]) (.cond (.tmp 30) .skip (.exit 2))) (.block 3 (.ops [(qS 31 (.mv (.tmp 9))), (qS 32 (.pu (.n (.ar .add)) [(.tmp 31), (ic 1)])), (qS 9 (.mv (.tmp 32)))]))))) (.seq (.block 4 (.loop (.seq (.seq (.ops [(qS 33 (.mv (.tmp 9))), (qS 34 (.mv (.tmp 10))), (qS 35 (.pu (.n (.ar .leq)) [(.tmp 33), (.tmp 34)])), (qS 36 (.mv (.tmp 35))), ⟨(.some 37), (.fieldA 0 (.tmp 4)), (.some (36, true)), [], .none⟩, ⟨(.some 38), (.load 1 false (.tmp 37)), (.some (36, true)), [], .none⟩, ⟨(.some 39), (.mv (.tmp 1)), (.some (36, true)), [], .none⟩, ⟨(.some 40), (.mv (.tmp 10)), (.some (36, true)), [], .none⟩, ⟨(.some 41), (.dyn (.tmp 38) [(.tmp 39), (.tmp 40)]), (.some (36, true)), [], .none⟩, (qS 42 (.pick (.tmp 36) (.tmp 41) (.const (.bool false))))]) (.cond (.tmp 42) .skip (.exit 4))) (.block 5 (.ops [(qS 43 (.mv (.tmp 10))), (qS 44 (.pu (.n (.ar .sub)) [(.tmp 43), (ic 1)])), (qS 10 (.mv (.tmp 44)))]))))) (.seq (.seq (.ops [(qS 45 (.mv (.tmp 9))), (qS 46 (.mv (.tmp 10))), (qS 47 (.pu (.n (.ar .gtr)) [(.tmp 45), (.tmp 46)]))]) (.cond (.tmp 47) (.exit 0) .skip)) (.seq (.ops [(qS 48 (.fieldA 1 (.tmp 4))), (qS 49 (.load 1 false (.tmp 48))), (qS 50 (.mv (.tmp 9))), (qS 51 (.mv (.tmp 10))), (qS 52 (.dyn (.tmp 49) [(.tmp 50), (.tmp 51)]))]) (.seq (.ops [(qS 53 (.mv (.tmp 9))), (qS 54 (.pu (.n (.ar .add)) [(.tmp 53), (ic 1)])), (qS 9 (.mv (.tmp 54)))]) (.ops [(qS 55 (.mv (.tmp 10))), (qS 56 (.pu (.n (.ar .sub)) [(.tmp 55), (ic 1)])), (qS 10 (.mv (.tmp 56)))]))))))))⟩ t h ⟨Q⟩ := by
  have big := L.big
  obtain ⟨S, hS⟩ : ∃ S, S = partEqLoop L.lt a i j A := ⟨_, rfl⟩
  rw [← hS] at hQ
  refine W_loopK (fun n t h => ∃ i j A', n = j + 1 - i ∧ t 1 = nV a ∧ t 4 = .ptr B 2 0 ∧ t 9 = nV i ∧ t 10 = nV j ∧ j < L.sz ∧ 1 ≤ i ∧ i ≤ L.sz ∧ Fr L H B h A' ∧ S = partEqLoop L.lt a i j A') (j + 1 - i) ⟨i, j, A, rfl, g1, g4, gi, gj, hj, hi, hi2, f, hS⟩ ?_
  clear g1 g4 gi gj hS hj hi hi2 f
  rintro K n t h hn hx ⟨i, j, A', rfl, g1, g4, gi, gj, hj, hi, hi2, f, hS⟩
  simp (maxSteps := 2000000) (disch := omega) only [gw, Nat.reduceAdd, Nat.reduceMul, g1]
  refine scanE2 f g1 g4 gi gj ha hj ?_
  clear g1 g4 gi gj
  clear t
  intro t g1 g4 gi gj
  have b1 := scanUp_ge (fun x => !L.lt A'[a]! x) A' j i
  have b2 := scanUp_max (fun x => !L.lt A'[a]! x) A' hi2 hj
  rw [partEqLoop_eq] at hS
  generalize scanUp (fun x => !L.lt A'[a]! x) A' j i = i2 at hS gi b1 b2
  simp (maxSteps := 2000000) (disch := omega) only [gw, Nat.reduceAdd, Nat.reduceMul, g1, g4, gi, gj]
  refine scanE4 f g1 g4 gi gj ha hj (by omega) b2 ?_
  clear g1 g4 gi gj
  clear t
  intro t g1 g4 gi gj
  have b3 := scanDown_le (fun x => L.lt A'[a]! x) A' i2 j
  generalize scanDown (fun x => L.lt A'[a]! x) A' i2 j = j2 at hS gj b3
  by_cases hc : i2 > j2
  · rw [if_pos hc] at hS
    simp (maxSteps := 2000000) (disch := omega) only [gw, Nat.reduceAdd, Nat.reduceMul, g1, g4, gi, gj, gt_iff_lt.1 hc]
    refine hx _ _ _ (by simp) (hQ _ _ g1 g4 (by rw [hS]; exact gi) (by rw [hS]; exact f))
  · rw [if_neg hc] at hS
    have hc' : ¬ j2 < i2 := hc
    obtain ⟨h', hs, f'⟩ := f.swapN i2 j2 (by omega) (by omega)
    simp (maxSteps := 2000000) (disch := omega) only [gw, Nat.reduceAdd, Nat.reduceMul, g1, g4, gi, gj, hc', f.ldS, hs]
    exact hn _ _ _ (by omega) ⟨i2 + 1, j2 - 1, _, rfl, g1, g4, rfl, rfl, by omega, by omega, by omega, f', hS⟩

def c_sort_partitionEqual_func : AFn := ⟨58, (.seq (.ops [(qS 4 (.box (.tmp 0))), (qS 8 (.mv (ic 0)))]) (.seq (.ops [(qS 11 (.fieldA 1 (.tmp 4))), (qS 12 (.load 1 false (.tmp 11))), (qS 13 (.mv (.tmp 1))), (qS 14 (.mv (.tmp 3))), (qS 15 (.dyn (.tmp 12) [(.tmp 13), (.tmp 14)]))]) (.seq (.ops [(qS 16 (.mv (.tmp 1))), (qS 17 (.pu (.n (.ar .add)) [(.tmp 16), (ic 1)])), (qS 18 (.mv (.tmp 2))), (qS 19 (.pu (.n (.ar .sub)) [(.tmp 18), (ic 1)])), (qS 9 (.mv (.tmp 17))), (qS 10 (.mv (.tmp 19)))]) (.seq (.block 0 (.loop (.block 1 (.seq (.block 2 (.loop (.seq (.seq (.ops [(qS 20 (.mv (.tmp 9))), (qS 21 (.mv (.tmp 10))), (qS 22 (.pu (.n (.ar .leq)) [(.tmp 20), (.tmp 21)])), (qS 23 (.mv (.tmp 22))), ⟨(.some 24), (.fieldA 0 (.tmp 4)), (.some (23, true)), [], .none⟩, ⟨(.some 25), (.load 1 false (.tmp 24)), (.some (23, true)), [], .none⟩, ⟨(.some 26), (.mv (.tmp 1)), (.some (23, true)), [], .none⟩, ⟨(.some 27), (.mv (.tmp 9)), (.some (23, true)), [], .none⟩, ⟨(.some 28), (.dyn (.tmp 25) [(.tmp 26), (.tmp 27)]), (.some (23, true)), [], .none⟩, ⟨(.some 29), (.pu (.n (.un .not)) [(.tmp 28)]), (.some (23, true)), [], .none⟩, (qS 30 (.pick (.tmp 23) (.tmp 29) (.const (.bool false))))]) (.cond (.tmp 30) .skip (.exit 2))) (.block 3 (.ops [(qS 31 (.mv (.tmp 9))), (qS 32 (.pu (.n (.ar .add)) [(.tmp 31), (ic 1)])), (qS 9 (.mv (.tmp 32)))]))))) (.seq (.block 4 (.loop (.seq (.seq (.ops [(qS 33 (.mv (.tmp 9))), (qS 34 (.mv (.tmp 10))), (qS 35 (.pu (.n (.ar .leq)) [(.tmp 33), (.tmp 34)])), (qS 36 (.mv (.tmp 35))), ⟨(.some 37), (.fieldA 0 (.tmp 4)), (.some (36, true)), [], .none⟩, ⟨(.some 38), (.load 1 false (.tmp 37)), (.some (36, true)), [], .none⟩, ⟨(.some 39), (.mv (.tmp 1)), (.some (36, true)), [], .none⟩, ⟨(.some 40), (.mv (.tmp 10)), (.some (36, true)), [], .none⟩, ⟨(.some 41), (.dyn (.tmp 38) [(.tmp 39), (.tmp 40)]), (.some (36, true)), [], .none⟩, (qS 42 (.pick (.tmp 36) (.tmp 41) (.const (.bool false))))]) (.cond (.tmp 42) .skip (.exit 4))) (.block 5 (.ops [(qS 43 (.mv (.tmp 10))), (qS 44 (.pu (.n (.ar .sub)) [(.tmp 43), (ic 1)])), (qS 10 (.mv (.tmp 44)))]))))) (.seq (.seq (.ops [(qS 45 (.mv (.tmp 9))), (qS 46 (.mv (.tmp 10))), (qS 47 (.pu (.n (.ar .gtr)) [(.tmp 45), (.tmp 46)]))]) (.cond (.tmp 47) (.exit 0) .skip)) (.seq (.ops [(qS 48 (.fieldA 1 (.tmp 4))), (qS 49 (.load 1 false (.tmp 48))), (qS 50 (.mv (.tmp 9))), (qS 51 (.mv (.tmp 10))), (qS 52 (.dyn (.tmp 49) [(.tmp 50), (.tmp 51)]))]) (.seq (.ops [(qS 53 (.mv (.tmp 9))), (qS 54 (.pu (.n (.ar .add)) [(.tmp 53), (ic 1)])), (qS 9 (.mv (.tmp 54)))]) (.ops [(qS 55 (.mv (.tmp 10))), (qS 56 (.pu (.n (.ar .sub)) [(.tmp 55), (ic 1)])), (qS 10 (.mv (.tmp 56)))]))))))))) (.seq (.ops [(qS 57 (.mv (.tmp 9))), (qS 8 (.mv (.tmp 57)))]) .ret))))), [(.tmp 8)]⟩

theorem W_partitionEqual {L : LS env α} {H : Heap} {A : Array α} (hL : L.Lh H A) (a b p : Nat) (hb : b ≤ L.sz) (hab : a < b) (hp : p < b) :
    R P env c_sort_partitionEqual_func [.agg [L.less, L.swap], nV a, nV b, nV p] H (PostS L H (partitionEqual L.lt A a b p).2 (nV (partitionEqual L.lt A a b p).1)) := by
  have big := L.big
  refine R_of (by simp [c_sort_partitionEqual_func]) ?_
  unfold c_sort_partitionEqual_func
  have f0 := Fr.start hL
  obtain ⟨h1, hs, f1⟩ := f0.swapN a p (by omega) (by omega)
  simp (maxSteps := 2000000) (disch := omega) only [gw, Nat.reduceAdd, Nat.reduceMul, L.oneL, L.oneS, f0.ldS, hs]
  generalize H.length = B at f0 f1 ⊢
  refine loopE0 f1 rfl rfl rfl rfl (by omega) (by omega) (by omega) (by omega) ?_
  intro t h g1 g4 g9 f
  simp (maxSteps := 2000000) (disch := omega) only [gw, Nat.reduceAdd, Nat.reduceMul, g9]
  exact ⟨rfl, f.lh, f.keep⟩

theorem loopP4 {L : LS env α} {Q : Post} {H h : Heap} {B : Nat} {A : Array α} {t : Nat → V} (f : Fr L H B h A) {a i j : Nat} (g1 : t 1 = nV a) (g4 : t 4 = .ptr B 2 0) (gi : t 10 = nV i) (gj : t 11 = nV j) (ha : a < L.sz) (hj : j < L.sz) (hi : 1 ≤ i) (hi2 : i ≤ L.sz)
    (hQ : ∀ t' h', t' 1 = nV a → t' 4 = .ptr B 2 0 → t' 11 = nV (partLoop L.lt a i j A).1 → (partLoop L.lt a i j A).1 < L.sz → Fr L H B h' (partLoop L.lt a i j A).2 → Q (.exit 4) t' h') : @W P env ⟨(.loop (.block 5 (.seq (.block 6 (.loop (.seq (.seq (.ops [(qS 64 (.mv (.tmp 10))), (qS 65 (.mv (.tmp 11))), (qS 66 (.pu (.n (.ar .leq)) [(.tmp 64), (.tmp 65)])), (qS 67 (.mv (.tmp 66))), ⟨(.some 68), (.fieldA 0 (.tmp 4)), (.some (67, true)), [], .none⟩, ⟨(.some 69), (.load 1 false (.tmp 68)), (.some (67, true)), [], .none⟩, ⟨(.some 70), (.mv (.tmp 10)), (.some (67, true)), [], .none⟩, ⟨(.some 71), (.mv (.tmp 1)), (.some (67, true)), [], .none⟩, ⟨(.some 72), (.dyn (.tmp 69) [(.tmp 70), (.tmp 71)]), (.some (67, true)), [], .none⟩, (qS 73 (.pick (.tmp 67) (.tmp 72) (.const (.bool false))))]) (.cond (.tmp 73) .skip (.exit 6))) (.block 7 (.ops [(qS 74 (.mv (.tmp 10))), (qS 75 (.pu (.n (.ar .add)) [(.tmp 74), (ic 1)])), (qS 10 (.mv (.tmp 75)))]))))) (.seq (.block 8 (.loop (.seq (.seq (.ops [(qS 76 (.mv (.tmp 10))), (qS 77 (.mv (.tmp 11))), (qS 78 (.pu (.n (.ar .leq)) [(.tmp 76), (.tmp 77)])), (qS 79 (.mv (.tmp 78))), ⟨(.some 80), (.fieldA 0 (.tmp 4)), (.some (79, true)), [], .none⟩, ⟨(.some 81), (.load 1 false (.tmp 80)), (.some (79, true)), [], .none⟩, ⟨(.some 82), (.mv (.tmp 11)), (.some (79, true)), [], .none⟩, ⟨(.some 83), (.mv (.tmp 1)), (.some (79, true)), [], .none⟩, ⟨(.some 84), (.dyn (.tmp 81) [(.tmp 82), (.tmp 83)]), (.some (79, true)), [], .none⟩, ⟨(.some 85), (.pu (.n (.un .not)) [(.tmp 84)]), (.some (79, true)), [], .none⟩, (qS 86 (.pick (.tmp 79) (.tmp 85) (.const (.bool false))))]) (.cond (.tmp 86) .skip (.exit 8))) (.block 9 (.ops [(qS 87 (.mv (.tmp 11))), (qS 88 (.pu (.n (.ar .sub)) [(.tmp 87), (ic 1)])), (qS 11 (.mv (.tmp 88)))]))))) (.seq (.seq (.ops [(qS 89 (.mv (.tmp 10))), (qS 90 (.mv (.tmp 11))), (qS 91 (.pu (.n (.ar .gtr)) [(.tmp 89), (.tmp 90)]))]) (.cond (.tmp 91) (.exit 4) .skip)) (.seq (.ops [(qS 92 (.fieldA 1 (.tmp 4))), (qS 93 (.load 1 false (.tmp 92))), (qS 94 (.mv (.tmp 10))), (qS 95 (.mv (.tmp 11))), (qS 96 (.dyn (.tmp 93) [(.tmp 94), (.tmp 95)]))]) (.seq (.ops [(qS 97 (.mv (.tmp 10))), (qS 98 (.pu (.n (.ar .add)) [(.tmp 97), (ic 1)])), (qS 10 (.mv (.tmp 98)))]) (.ops [(qS 99 (.mv (.tmp 11))), (qS 100 (.pu (.n (.ar .sub)) [(.tmp 99), (ic 1)])), (qS 11 (.mv (.tmp 100)))]))))))))⟩ t h ⟨Q⟩ := by
  have big := L.big
  obtain ⟨S, hS⟩ : ∃ S, S = partLoop L.lt a i j A := ⟨_, rfl⟩
  rw [← hS] at hQ
  refine W_loopK (fun n t h => ∃ i j A', n = j + 1 - i ∧ t 1 = nV a ∧ t 4 = .ptr B 2 0 ∧ t 10 = nV i ∧ t 11 = nV j ∧ j < L.sz ∧ 1 ≤ i ∧ i ≤ L.sz ∧ Fr L H B h A' ∧ S = partLoop L.lt a i j A') (j + 1 - i) ⟨i, j, A, rfl, g1, g4, gi, gj, hj, hi, hi2, f, hS⟩ ?_
  clear g1 g4 gi gj hS hj hi hi2 f
  rintro K n t h hn hx ⟨i, j, A', rfl, g1, g4, gi, gj, hj, hi, hi2, f, hS⟩
  simp (maxSteps := 2000000) (disch := omega) only [gw, Nat.reduceAdd, Nat.reduceMul, g1]
  refine scanP6 f g1 g4 gi gj ha hj ?_
  clear g1 g4 gi gj
  clear t
  intro t g1 g4 gi gj
  have b1 := scanUp_ge (fun x => L.lt x A'[a]!) A' j i
  have b2 := scanUp_max (fun x => L.lt x A'[a]!) A' hi2 hj
  rw [partLoop_eq] at hS
  generalize scanUp (fun x => L.lt x A'[a]!) A' j i = i2 at hS gi b1 b2
  simp (maxSteps := 2000000) (disch := omega) only [gw, Nat.reduceAdd, Nat.reduceMul, g1, g4, gi, gj]
  refine scanP8 f g1 g4 gi gj ha hj (by omega) b2 ?_
  clear g1 g4 gi gj
  clear t
  intro t g1 g4 gi gj
  have b3 := scanDown_le (fun x => !L.lt x A'[a]!) A' i2 j
  generalize scanDown (fun x => !L.lt x A'[a]!) A' i2 j = j2 at hS gj b3
  by_cases hc : i2 > j2
  · rw [if_pos hc] at hS
    simp (maxSteps := 2000000) (disch := omega) only [gw, Nat.reduceAdd, Nat.reduceMul, g1, g4, gi, gj, gt_iff_lt.1 hc]
    refine hx _ _ _ (by simp) (hQ _ _ g1 g4 (by rw [hS]; exact gj) (by rw [hS]; show j2 < _; omega) (by rw [hS]; exact f))
  · rw [if_neg hc] at hS
    have hc' : ¬ j2 < i2 := hc
    obtain ⟨h', hs, f'⟩ := f.swapN i2 j2 (by omega) (by omega)
    simp (maxSteps := 2000000) (disch := omega) only [gw, Nat.reduceAdd, Nat.reduceMul, g1, g4, gi, gj, hc', f.ldS, hs]
    exact hn _ _ _ (by omega) ⟨i2 + 1, j2 - 1, _, rfl, g1, g4, rfl, rfl, by omega, by omega, by omega, f', hS⟩

def c_sort_partition_func : AFn := ⟨107, (.seq (.ops [(qS 4 (.box (.tmp 0))), (qS 8 (.mv (ic 0))), (qS 9 (.mv (.const (.bool false))))]) (.seq (.ops [(qS 12 (.fieldA 1 (.tmp 4))), (qS 13 (.load 1 false (.tmp 12))), (qS 14 (.mv (.tmp 1))), (qS 15 (.mv (.tmp 3))), (qS 16 (.dyn (.tmp 13) [(.tmp 14), (.tmp 15)]))]) (.seq (.ops [(qS 17 (.mv (.tmp 1))), (qS 18 (.pu (.n (.ar .add)) [(.tmp 17), (ic 1)])), (qS 19 (.mv (.tmp 2))), (qS 20 (.pu (.n (.ar .sub)) [(.tmp 19), (ic 1)])), (qS 10 (.mv (.tmp 18))), (qS 11 (.mv (.tmp 20)))]) (.seq (.block 0 (.loop (.seq (.seq (.ops [(qS 21 (.mv (.tmp 10))), (qS 22 (.mv (.tmp 11))), (qS 23 (.pu (.n (.ar .leq)) [(.tmp 21), (.tmp 22)])), (qS 24 (.mv (.tmp 23))), ⟨(.some 25), (.fieldA 0 (.tmp 4)), (.some (24, true)), [], .none⟩, ⟨(.some 26), (.load 1 false (.tmp 25)), (.some (24, true)), [], .none⟩, ⟨(.some 27), (.mv (.tmp 10)), (.some (24, true)), [], .none⟩, ⟨(.some 28), (.mv (.tmp 1)), (.some (24, true)), [], .none⟩, ⟨(.some 29), (.dyn (.tmp 26) [(.tmp 27), (.tmp 28)]), (.some (24, true)), [], .none⟩, (qS 30 (.pick (.tmp 24) (.tmp 29) (.const (.bool false))))]) (.cond (.tmp 30) .skip (.exit 0))) (.block 1 (.ops [(qS 31 (.mv (.tmp 10))), (qS 32 (.pu (.n (.ar .add)) [(.tmp 31), (ic 1)])), (qS 10 (.mv (.tmp 32)))]))))) (.seq (.block 2 (.loop (.seq (.seq (.ops [(qS 33 (.mv (.tmp 10))), (qS 34 (.mv (.tmp 11))), (qS 35 (.pu (.n (.ar .leq)) [(.tmp 33), (.tmp 34)])), (qS 36 (.mv (.tmp 35))), ⟨(.some 37), (.fieldA 0 (.tmp 4)), (.some (36, true)), [], .none⟩, ⟨(.some 38), (.load 1 false (.tmp 37)), (.some (36, true)), [], .none⟩, ⟨(.some 39), (.mv (.tmp 11)), (.some (36, true)), [], .none⟩, ⟨(.some 40), (.mv (.tmp 1)), (.some (36, true)), [], .none⟩, ⟨(.some 41), (.dyn (.tmp 38) [(.tmp 39), (.tmp 40)]), (.some (36, true)), [], .none⟩, ⟨(.some 42), (.pu (.n (.un .not)) [(.tmp 41)]), (.some (36, true)), [], .none⟩, (qS 43 (.pick (.tmp 36) (.tmp 42) (.const (.bool false))))]) (.cond (.tmp 43) .skip (.exit 2))) (.block 3 (.ops [(qS 44 (.mv (.tmp 11))), (qS 45 (.pu (.n (.ar .sub)) [(.tmp 44), (ic 1)])), (qS 11 (.mv (.tmp 45)))]))))) (.seq (.seq (.ops [(qS 46 (.mv (.tmp 10))), (qS 47 (.mv (.tmp 11))), (qS 48 (.pu (.n (.ar .gtr)) [(.tmp 46), (.tmp 47)]))]) (.cond (.tmp 48) (.seq (.ops [(qS 49 (.fieldA 1 (.tmp 4))), (qS 50 (.load 1 false (.tmp 49))), (qS 51 (.mv (.tmp 11))), (qS 52 (.mv (.tmp 1))), (qS 53 (.dyn (.tmp 50) [(.tmp 51), (.tmp 52)]))]) (.seq (.ops [(qS 54 (.mv (.tmp 11))), (qS 8 (.mv (.tmp 54))), (qS 9 (.mv (.const (.bool true))))]) .ret)) .skip)) (.seq (.ops [(qS 55 (.fieldA 1 (.tmp 4))), (qS 56 (.load 1 false (.tmp 55))), (qS 57 (.mv (.tmp 10))), (qS 58 (.mv (.tmp 11))), (qS 59 (.dyn (.tmp 56) [(.tmp 57), (.tmp 58)]))]) (.seq (.ops [(qS 60 (.mv (.tmp 10))), (qS 61 (.pu (.n (.ar .add)) [(.tmp 60), (ic 1)])), (qS 10 (.mv (.tmp 61)))]) (.seq (.ops [(qS 62 (.mv (.tmp 11))), (qS 63 (.pu (.n (.ar .sub)) [(.tmp 62), (ic 1)])), (qS 11 (.mv (.tmp 63)))]) (.seq (.block 4 (.loop (.block 5 (.seq (.block 6 (.loop (.seq (.seq (.ops [(qS 64 (.mv (.tmp 10))), (qS 65 (.mv (.tmp 11))), (qS 66 (.pu (.n (.ar .leq)) [(.tmp 64), (.tmp 65)])), (qS 67 (.mv (.tmp 66))), ⟨(.some 68), (.fieldA 0 (.tmp 4)), (.some (67, true)), [], .none⟩, ⟨(.some 69), (.load 1 false (.tmp 68)), (.some (67, true)), [], .none⟩, ⟨(.some 70), (.mv (.tmp 10)), (.some (67, true)), [], .none⟩, ⟨(.some 71), (.mv (.tmp 1)), (.some (67, true)), [], .none⟩, ⟨(.some 72), (.dyn (.tmp 69) [(.tmp 70), (.tmp 71)]), (.some (67, true)), [], .none⟩, (qS 73 (.pick (.tmp 67) (.tmp 72) (.const (.bool false))))]) (.cond (.tmp 73) .skip (.exit 6))) (.block 7 (.ops [(qS 74 (.mv (.tmp 10))), (qS 75 (.pu (.n (.ar .add)) [(.tmp 74), (ic 1)])), (qS 10 (.mv (.tmp 75)))]))))) (.seq (.block 8 (.loop (.seq (.seq (.ops [(qS 76 (.mv (.tmp 10))), (qS 77 (.mv (.tmp 11))), (qS 78 (.pu (.n (.ar .leq)) [(.tmp 76), (.tmp 77)])), (qS 79 (.mv (.tmp 78))), ⟨(.some 80), (.fieldA 0 (.tmp 4)), (.some (79, true)), [], .none⟩, ⟨(.some 81), (.load 1 false (.tmp 80)), (.some (79, true)), [], .none⟩, ⟨(.some 82), (.mv (.tmp 11)), (.some (79, true)), [], .none⟩, ⟨(.some 83), (.mv (.tmp 1)), (.some (79, true)), [], .none⟩, ⟨(.some 84), (.dyn (.tmp 81) [(.tmp 82), (.tmp 83)]), (.some (79, true)), [], .none⟩, ⟨(.some 85), (.pu (.n (.un .not)) [(.tmp 84)]), (.some (79, true)), [], .none⟩, (qS 86 (.pick (.tmp 79) (.tmp 85) (.const (.bool false))))]) (.cond (.tmp 86) .skip (.exit 8))) (.block 9 (.ops [(qS 87 (.mv (.tmp 11))), (qS 88 (.pu (.n (.ar .sub)) [(.tmp 87), (ic 1)])), (qS 11 (.mv (.tmp 88)))]))))) (.seq (.seq (.ops [(qS 89 (.mv (.tmp 10))), (qS 90 (.mv (.tmp 11))), (qS 91 (.pu (.n (.ar .gtr)) [(.tmp 89), (.tmp 90)]))]) (.cond (.tmp 91) (.exit 4) .skip)) (.seq (.ops [(qS 92 (.fieldA 1 (.tmp 4))), (qS 93 (.load 1 false (.tmp 92))), (qS 94 (.mv (.tmp 10))), (qS 95 (.mv (.tmp 11))), (qS 96 (.dyn (.tmp 93) [(.tmp 94), (.tmp 95)]))]) (.seq (.ops [(qS 97 (.mv (.tmp 10))), (qS 98 (.pu (.n (.ar .add)) [(.tmp 97), (ic 1)])), (qS 10 (.mv (.tmp 98)))]) (.ops [(qS 99 (.mv (.tmp 11))), (qS 100 (.pu (.n (.ar .sub)) [(.tmp 99), (ic 1)])), (qS 11 (.mv (.tmp 100)))]))))))))) (.seq (.ops [(qS 101 (.fieldA 1 (.tmp 4))), (qS 102 (.load 1 false (.tmp 101))), (qS 103 (.mv (.tmp 11))), (qS 104 (.mv (.tmp 1))), (qS 105 (.dyn (.tmp 102) [(.tmp 103), (.tmp 104)]))]) (.seq (.ops [(qS 106 (.mv (.tmp 11))), (qS 8 (.mv (.tmp 106))), (qS 9 (.mv (.const (.bool false))))]) .ret)))))))))))), [(.tmp 8), (.tmp 9)]⟩

theorem W_partition {L : LS env α} {H : Heap} {A : Array α} (hL : L.Lh H A) (a b p : Nat) (hb : b ≤ L.sz) (hab : a < b) (hp : p < b) :
    R P env c_sort_partition_func [.agg [L.less, L.swap], nV a, nV b, nV p] H (PostS L H (partition L.lt A a b p).2.2 (.tup [nV (partition L.lt A a b p).1, .i (.s (.bool (partition L.lt A a b p).2.1))])) := by
  have big := L.big
  refine R_of (by simp [c_sort_partition_func]) ?_
  unfold c_sort_partition_func
  have f0 := Fr.start hL
  obtain ⟨h1, hs, f1⟩ := f0.swapN a p (by omega) (by omega)
  obtain ⟨S, hS⟩ : ∃ S, S = partition L.lt A a b p := ⟨_, rfl⟩
  rw [← hS]
  simp (maxSteps := 2000000) (disch := omega) only [gw, Nat.reduceAdd, Nat.reduceMul, L.oneL, L.oneS, f0.ldS, hs]
  generalize H.length = B at f0 f1 ⊢
  unfold partition at hS
  simp only [] at hS
  clear f0 hs
  generalize swp A a p = A1 at f1 hS
  refine scanP0 f1 rfl rfl rfl rfl (by omega) (by omega) ?_
  intro t g1 g4 gi gj
  have b1 := scanUp_ge (fun x => L.lt x A1[a]!) A1 (b - 1) (a + 1)
  have b2 := scanUp_max (fun x => L.lt x A1[a]!) A1 (i := a + 1) (j := b - 1) (n := L.sz) (by omega) (by omega)
  generalize scanUp (fun x => L.lt x A1[a]!) A1 (b - 1) (a + 1) = i2 at hS gi b1 b2
  simp (maxSteps := 2000000) (disch := omega) only [gw, Nat.reduceAdd, Nat.reduceMul, g1, g4, gi, gj]
  refine scanP2 f1 g1 g4 gi gj (by omega) (by omega) (by omega) b2 ?_
  clear g1 g4 gi gj
  clear t
  intro t g1 g4 gi gj
  have b3 := scanDown_le (fun x => !L.lt x A1[a]!) A1 i2 (b - 1)
  generalize scanDown (fun x => !L.lt x A1[a]!) A1 i2 (b - 1) = j2 at hS gj b3
  by_cases hc : i2 > j2
  · rw [if_pos hc] at hS
    obtain ⟨h', hs, f'⟩ := f1.swapN j2 a (by omega) (by omega)
    subst hS
    simp (maxSteps := 2000000) (disch := omega) only [gw, Nat.reduceAdd, Nat.reduceMul, g1, g4, gi, gj, gt_iff_lt.1 hc, f1.ldS, hs]
    exact ⟨rfl, f'.lh, f'.keep⟩
  · rw [if_neg hc] at hS
    have hc' : ¬ j2 < i2 := hc
    obtain ⟨h', hs, f'⟩ := f1.swapN i2 j2 (by omega) (by omega)
    simp (maxSteps := 2000000) (disch := omega) only [gw, Nat.reduceAdd, Nat.reduceMul, g1, g4, gi, gj, hc', f1.ldS, hs]
    refine loopP4 (i := i2 + 1) (j := j2 - 1) f' g1 g4 rfl rfl (by omega) (by omega) (by omega) (by omega) ?_
    clear hs g4
    clear g1 gi gj
    clear t
    intro t h2 g1 g4 gj hj f2
    obtain ⟨h3, hs, f3⟩ := f2.swapN _ a hj (by omega)
    subst hS
    simp (maxSteps := 2000000) (disch := omega) only [gw, Nat.reduceAdd, Nat.reduceMul, g1, g4, gj, f2.ldS, hs]
    exact ⟨rfl, f3.lh, f3.keep⟩
end Go.AM

set_option linter.unusedVariables false
set_option linter.unusedSimpArgs false
set_option maxRecDepth 20000
namespace Go.AM
open Go.Sort
variable {P : Program} {env : Env} {α : Type} [Inhabited α]

theorem d10 : decide ((1 : Int) ≤ 0) = false := rfl
theorem d55 : decide ((5 : Int) < 5) = false := rfl

theorem scanI2 {L : LS env α} {Q : Post} {H h : Heap} {B : Nat} {A : Array α} {t : Nat → V} (f : Fr L H B h A) {a b i : Nat} {v8 : V} (g1 : t 1 = nV a) (g2 : t 2 = nV b) (g3 : t 3 = .ptr B 2 0) (g7 : t 7 = nV i) (g8 : t 8 = v8) (hb : b ≤ L.sz) (hi : 1 ≤ i)
    (hQ : ∀ t', t' 1 = nV a → t' 2 = nV b → t' 3 = .ptr B 2 0 → t' 7 = nV (scanSorted L.lt A b i) → t' 8 = v8 → Q (.exit 2) t' h) : @W P env ⟨(.loop (.seq (.seq (.ops [(qS 17 (.mv (.tmp 7))), (qS 18 (.mv (.tmp 2))), (qS 19 (.pu (.n (.ar .lss)) [(.tmp 17), (.tmp 18)])), (qS 20 (.mv (.tmp 19))), ⟨(.some 21), (.fieldA 0 (.tmp 3)), (.some (20, true)), [], .none⟩, ⟨(.some 22), (.load 1 false (.tmp 21)), (.some (20, true)), [], .none⟩, ⟨(.some 23), (.mv (.tmp 7)), (.some (20, true)), [], .none⟩, ⟨(.some 24), (.mv (.tmp 7)), (.some (20, true)), [], .none⟩, ⟨(.some 25), (.pu (.n (.ar .sub)) [(.tmp 24), (ic 1)]), (.some (20, true)), [], .none⟩, ⟨(.some 26), (.dyn (.tmp 22) [(.tmp 23), (.tmp 25)]), (.some (20, true)), [], .none⟩, ⟨(.some 27), (.pu (.n (.un .not)) [(.tmp 26)]), (.some (20, true)), [], .none⟩, (qS 28 (.pick (.tmp 20) (.tmp 27) (.const (.bool false))))]) (.cond (.tmp 28) .skip (.exit 2))) (.block 3 (.ops [(qS 29 (.mv (.tmp 7))), (qS 30 (.pu (.n (.ar .add)) [(.tmp 29), (ic 1)])), (qS 7 (.mv (.tmp 30)))]))))⟩ t h ⟨Q⟩ := by
  have big := L.big
  obtain ⟨S, hS⟩ : ∃ S, S = scanSorted L.lt A b i := ⟨_, rfl⟩
  rw [← hS] at hQ
  refine W_loopK (fun n t h' => ∃ i, n = b - i ∧ h' = h ∧ t 1 = nV a ∧ t 2 = nV b ∧ t 3 = .ptr B 2 0 ∧ t 7 = nV i ∧ t 8 = v8 ∧ 1 ≤ i ∧ S = scanSorted L.lt A b i) (b - i) ⟨i, rfl, rfl, g1, g2, g3, g7, g8, hi, hS⟩ ?_
  clear g1 g2 g3 g7 g8 hS hi
  rintro K n t h' hn hx ⟨i, rfl, rfl, g1, g2, g3, g7, g8, hi, hS⟩
  rw [scanSorted] at hS
  by_cases hib : i < b
  · have hl := f.lessN i (i - 1) (by omega) (by omega)
    by_cases hp : L.lt A[i]! A[i - 1]! = true
    · rw [hp] at hl
      rw [if_neg (by simp [hp])] at hS
      simp (maxSteps := 2000000) (disch := omega) only [gw, Nat.reduceAdd, Nat.reduceMul, g1, g2, g3, g7, hib, f.ldL, hl]
      exact hx _ _ _ (by simp) (hQ _ g1 g2 g3 (by rw [hS]; exact g7) g8)
    · rw [Bool.not_eq_true] at hp
      rw [hp] at hl
      rw [if_pos (by simp [hib, hp])] at hS
      simp (maxSteps := 2000000) (disch := omega) only [gw, Nat.reduceAdd, Nat.reduceMul, g1, g2, g3, g7, hib, f.ldL, hl]
      exact hn _ _ _ (by omega) ⟨i + 1, rfl, rfl, g1, g2, g3, rfl, g8, by omega, hS⟩
  · rw [if_neg (by simp [hib])] at hS
    simp (maxSteps := 2000000) (disch := omega) only [gw, Nat.reduceAdd, Nat.reduceMul, g1, g2, g3, g7, hib]
    exact hx _ _ _ (by simp) (hQ _ g1 g2 g3 (by rw [hS]; exact g7) g8)

theorem loopI4 {L : LS env α} {Q : Post} {H h : Heap} {B : Nat} {A : Array α} {t : Nat → V} (f : Fr L H B h A) {a b j : Nat} {v7 v8 : V} (g1 : t 1 = nV a) (g2 : t 2 = nV b) (g3 : t 3 = .ptr B 2 0) (g7 : t 7 = v7) (g8 : t 8 = v8) (g9 : t 9 = nV j) (hj : j < L.sz)
    (hQ : ∀ t' h', t' 1 = nV a → t' 2 = nV b → t' 3 = .ptr B 2 0 → t' 7 = v7 → t' 8 = v8 → Fr L H B h' (shiftDown L.lt j A) → Q (.exit 4) t' h') : @W P env ⟨(.loop (.seq (.seq (.ops [(qS 50 (.mv (.tmp 9))), (qS 51 (.pu (.n (.ar .geq)) [(.tmp 50), (ic 1)]))]) (.cond (.tmp 51) .skip (.exit 4))) (.seq (.block 5 (.seq (.seq (.ops [(qS 54 (.fieldA 0 (.tmp 3))), (qS 55 (.load 1 false (.tmp 54))), (qS 56 (.mv (.tmp 9))), (qS 57 (.mv (.tmp 9))), (qS 58 (.pu (.n (.ar .sub)) [(.tmp 57), (ic 1)])), (qS 59 (.dyn (.tmp 55) [(.tmp 56), (.tmp 58)])), (qS 60 (.pu (.n (.un .not)) [(.tmp 59)]))]) (.cond (.tmp 60) (.exit 4) .skip)) (.ops [(qS 61 (.fieldA 1 (.tmp 3))), (qS 62 (.load 1 false (.tmp 61))), (qS 63 (.mv (.tmp 9))), (qS 64 (.mv (.tmp 9))), (qS 65 (.pu (.n (.ar .sub)) [(.tmp 64), (ic 1)])), (qS 66 (.dyn (.tmp 62) [(.tmp 63), (.tmp 65)]))]))) (.ops [(qS 52 (.mv (.tmp 9))), (qS 53 (.pu (.n (.ar .sub)) [(.tmp 52), (ic 1)])), (qS 9 (.mv (.tmp 53)))]))))⟩ t h ⟨Q⟩ := by
  have big := L.big
  obtain ⟨S, hS⟩ : ∃ S, S = shiftDown L.lt j A := ⟨_, rfl⟩
  rw [← hS] at hQ
  refine W_loopK (fun n t h => ∃ j A, j = n ∧ t 1 = nV a ∧ t 2 = nV b ∧ t 3 = .ptr B 2 0 ∧ t 7 = v7 ∧ t 8 = v8 ∧ t 9 = nV j ∧ j < L.sz ∧ Fr L H B h A ∧ S = shiftDown L.lt j A) j ⟨j, A, rfl, g1, g2, g3, g7, g8, g9, hj, f, hS⟩ ?_
  clear g1 g2 g3 g7 g8 g9 hS hj f
  rintro K n t h hn hx ⟨j, A, rfl, g1, g2, g3, g7, g8, g9, hj, f, hS⟩
  cases j with
  | zero =>
    simp (maxSteps := 2000000) (disch := omega) only [gw, Nat.reduceAdd, Nat.reduceMul, g1, g2, g3, g7, g9, d10]
    exact hx _ _ _ (by simp) (hQ _ _ g1 g2 g3 g7 g8 (by rw [hS]; exact f))
  | succ k =>
    have h1 : (1 : Int) ≤ ((k + 1 : Nat) : Int) := by omega
    rw [shiftDown] at hS
    have hl := f.lessN (k + 1) k (by omega) (by omega)
    obtain ⟨h', hs, f'⟩ := f.swapN (k + 1) k (by omega) (by omega)
    by_cases hp : L.lt A[k + 1]! A[k]! = true
    · rw [hp] at hl
      rw [if_neg (by simp [hp])] at hS
      simp (maxSteps := 2000000) (disch := omega) only [gw, Nat.reduceAdd, Nat.reduceMul, g1, g2, g3, g7, g9, h1, f.ldL, f.ldS, hl, hs, Nat.add_sub_cancel]
      exact hn _ _ _ (by omega) ⟨k, _, rfl, g1, g2, g3, g7, g8, rfl, by omega, f', hS⟩
    · rw [Bool.not_eq_true] at hp
      rw [hp] at hl
      rw [if_pos (by simp [hp])] at hS
      simp (maxSteps := 2000000) (disch := omega) only [gw, Nat.reduceAdd, Nat.reduceMul, g1, g2, g3, g7, g9, h1, f.ldL, hl, Nat.add_sub_cancel]
      exact hx _ _ _ (by simp) (hQ _ _ g1 g2 g3 g7 g8 (by rw [hS]; exact f))

theorem loopI6 {L : LS env α} {Q : Post} {H h : Heap} {B : Nat} {A : Array α} {t : Nat → V} (f : Fr L H B h A) {a b j : Nat} {v7 v8 : V} (g1 : t 1 = nV a) (g2 : t 2 = nV b) (g3 : t 3 = .ptr B 2 0) (g7 : t 7 = v7) (g8 : t 8 = v8) (g9 : t 10 = nV j) (hj : 1 ≤ j) (hb : b ≤ L.sz)
    (hQ : ∀ t' h', t' 1 = nV a → t' 2 = nV b → t' 3 = .ptr B 2 0 → t' 7 = v7 → t' 8 = v8 → Fr L H B h' (shiftUp L.lt b j A) → Q (.exit 6) t' h') : @W P env ⟨(.loop (.seq (.seq (.ops [(qS 73 (.mv (.tmp 10))), (qS 74 (.mv (.tmp 2))), (qS 75 (.pu (.n (.ar .lss)) [(.tmp 73), (.tmp 74)]))]) (.cond (.tmp 75) .skip (.exit 6))) (.seq (.block 7 (.seq (.seq (.ops [(qS 78 (.fieldA 0 (.tmp 3))), (qS 79 (.load 1 false (.tmp 78))), (qS 80 (.mv (.tmp 10))), (qS 81 (.mv (.tmp 10))), (qS 82 (.pu (.n (.ar .sub)) [(.tmp 81), (ic 1)])), (qS 83 (.dyn (.tmp 79) [(.tmp 80), (.tmp 82)])), (qS 84 (.pu (.n (.un .not)) [(.tmp 83)]))]) (.cond (.tmp 84) (.exit 6) .skip)) (.ops [(qS 85 (.fieldA 1 (.tmp 3))), (qS 86 (.load 1 false (.tmp 85))), (qS 87 (.mv (.tmp 10))), (qS 88 (.mv (.tmp 10))), (qS 89 (.pu (.n (.ar .sub)) [(.tmp 88), (ic 1)])), (qS 90 (.dyn (.tmp 86) [(.tmp 87), (.tmp 89)]))]))) (.ops [(qS 76 (.mv (.tmp 10))), (qS 77 (.pu (.n (.ar .add)) [(.tmp 76), (ic 1)])), (qS 10 (.mv (.tmp 77)))]))))⟩ t h ⟨Q⟩ := by
  have big := L.big
  obtain ⟨S, hS⟩ : ∃ S, S = shiftUp L.lt b j A := ⟨_, rfl⟩
  rw [← hS] at hQ
  refine W_loopK (fun n t h => ∃ j A, n = b - j ∧ t 1 = nV a ∧ t 2 = nV b ∧ t 3 = .ptr B 2 0 ∧ t 7 = v7 ∧ t 8 = v8 ∧ t 10 = nV j ∧ 1 ≤ j ∧ Fr L H B h A ∧ S = shiftUp L.lt b j A) (b - j) ⟨j, A, rfl, g1, g2, g3, g7, g8, g9, hj, f, hS⟩ ?_
  clear g1 g2 g3 g7 g8 g9 hS hj f
  rintro K n t h hn hx ⟨j, A, rfl, g1, g2, g3, g7, g8, g9, hj, f, hS⟩
  rw [shiftUp] at hS
  by_cases hjb : j < b
  · rw [if_pos hjb] at hS
    have hl := f.lessN j (j - 1) (by omega) (by omega)
    obtain ⟨h', hs, f'⟩ := f.swapN j (j - 1) (by omega) (by omega)
    by_cases hp : L.lt A[j]! A[j - 1]! = true
    · rw [hp] at hl
      rw [if_neg (by simp [hp])] at hS
      simp (maxSteps := 2000000) (disch := omega) only [gw, Nat.reduceAdd, Nat.reduceMul, g1, g2, g3, g7, g9, hjb, f.ldL, f.ldS, hl, hs]
      exact hn _ _ _ (by omega) ⟨j + 1, _, rfl, g1, g2, g3, g7, g8, rfl, by omega, f', hS⟩
    · rw [Bool.not_eq_true] at hp
      rw [hp] at hl
      rw [if_pos (by simp [hp])] at hS
      simp (maxSteps := 2000000) (disch := omega) only [gw, Nat.reduceAdd, Nat.reduceMul, g1, g2, g3, g7, g9, hjb, f.ldL, hl]
      exact hx _ _ _ (by simp) (hQ _ _ g1 g2 g3 g7 g8 (by rw [hS]; exact f))
  · rw [if_neg hjb] at hS
    simp (maxSteps := 2000000) (disch := omega) only [gw, Nat.reduceAdd, Nat.reduceMul, g1, g2, g3, g7, g9, hjb]
    exact hx _ _ _ (by simp) (hQ _ _ g1 g2 g3 g7 g8 (by rw [hS]; exact f))

def c_sort_partialInsertionSort_func : AFn := ⟨91, (.seq (.ops [(qS 3 (.box (.tmp 0))), (qS 6 (.mv (.const (.bool false))))]) (.seq (.ops [(qS 11 (.mv (.tmp 1))), (qS 12 (.pu (.n (.ar .add)) [(.tmp 11), (ic 1)])), (qS 7 (.mv (.tmp 12)))]) (.seq (.seq (.ops [(qS 8 (.mv (ic 0)))]) (.block 0 (.loop (.seq (.seq (.ops [(qS 13 (.mv (.tmp 8))), (qS 14 (.pu (.n (.ar .lss)) [(.tmp 13), (ic 5)]))]) (.cond (.tmp 14) .skip (.exit 0))) (.seq (.block 1 (.seq (.block 2 (.loop (.seq (.seq (.ops [(qS 17 (.mv (.tmp 7))), (qS 18 (.mv (.tmp 2))), (qS 19 (.pu (.n (.ar .lss)) [(.tmp 17), (.tmp 18)])), (qS 20 (.mv (.tmp 19))), ⟨(.some 21), (.fieldA 0 (.tmp 3)), (.some (20, true)), [], .none⟩, ⟨(.some 22), (.load 1 false (.tmp 21)), (.some (20, true)), [], .none⟩, ⟨(.some 23), (.mv (.tmp 7)), (.some (20, true)), [], .none⟩, ⟨(.some 24), (.mv (.tmp 7)), (.some (20, true)), [], .none⟩, ⟨(.some 25), (.pu (.n (.ar .sub)) [(.tmp 24), (ic 1)]), (.some (20, true)), [], .none⟩, ⟨(.some 26), (.dyn (.tmp 22) [(.tmp 23), (.tmp 25)]), (.some (20, true)), [], .none⟩, ⟨(.some 27), (.pu (.n (.un .not)) [(.tmp 26)]), (.some (20, true)), [], .none⟩, (qS 28 (.pick (.tmp 20) (.tmp 27) (.const (.bool false))))]) (.cond (.tmp 28) .skip (.exit 2))) (.block 3 (.ops [(qS 29 (.mv (.tmp 7))), (qS 30 (.pu (.n (.ar .add)) [(.tmp 29), (ic 1)])), (qS 7 (.mv (.tmp 30)))]))))) (.seq (.seq (.ops [(qS 31 (.mv (.tmp 7))), (qS 32 (.mv (.tmp 2))), (qS 33 (.pu (.n (.ar .eql)) [(.tmp 31), (.tmp 32)]))]) (.cond (.tmp 33) (.seq (.ops [(qS 6 (.mv (.const (.bool true))))]) .ret) .skip)) (.seq (.seq (.ops [(qS 34 (.mv (.tmp 2))), (qS 35 (.mv (.tmp 1))), (qS 36 (.pu (.n (.ar .sub)) [(.tmp 34), (.tmp 35)])), (qS 37 (.pu (.n (.ar .lss)) [(.tmp 36), (ic 50)]))]) (.cond (.tmp 37) (.seq (.ops [(qS 6 (.mv (.const (.bool false))))]) .ret) .skip)) (.seq (.ops [(qS 38 (.fieldA 1 (.tmp 3))), (qS 39 (.load 1 false (.tmp 38))), (qS 40 (.mv (.tmp 7))), (qS 41 (.mv (.tmp 7))), (qS 42 (.pu (.n (.ar .sub)) [(.tmp 41), (ic 1)])), (qS 43 (.dyn (.tmp 39) [(.tmp 40), (.tmp 42)]))]) (.seq (.seq (.ops [(qS 44 (.mv (.tmp 7))), (qS 45 (.mv (.tmp 1))), (qS 46 (.pu (.n (.ar .sub)) [(.tmp 44), (.tmp 45)])), (qS 47 (.pu (.n (.ar .geq)) [(.tmp 46), (ic 2)]))]) (.cond (.tmp 47) (.seq (.ops [(qS 48 (.mv (.tmp 7))), (qS 49 (.pu (.n (.ar .sub)) [(.tmp 48), (ic 1)])), (qS 9 (.mv (.tmp 49)))]) (.block 4 (.loop (.seq (.seq (.ops [(qS 50 (.mv (.tmp 9))), (qS 51 (.pu (.n (.ar .geq)) [(.tmp 50), (ic 1)]))]) (.cond (.tmp 51) .skip (.exit 4))) (.seq (.block 5 (.seq (.seq (.ops [(qS 54 (.fieldA 0 (.tmp 3))), (qS 55 (.load 1 false (.tmp 54))), (qS 56 (.mv (.tmp 9))), (qS 57 (.mv (.tmp 9))), (qS 58 (.pu (.n (.ar .sub)) [(.tmp 57), (ic 1)])), (qS 59 (.dyn (.tmp 55) [(.tmp 56), (.tmp 58)])), (qS 60 (.pu (.n (.un .not)) [(.tmp 59)]))]) (.cond (.tmp 60) (.exit 4) .skip)) (.ops [(qS 61 (.fieldA 1 (.tmp 3))), (qS 62 (.load 1 false (.tmp 61))), (qS 63 (.mv (.tmp 9))), (qS 64 (.mv (.tmp 9))), (qS 65 (.pu (.n (.ar .sub)) [(.tmp 64), (ic 1)])), (qS 66 (.dyn (.tmp 62) [(.tmp 63), (.tmp 65)]))]))) (.ops [(qS 52 (.mv (.tmp 9))), (qS 53 (.pu (.n (.ar .sub)) [(.tmp 52), (ic 1)])), (qS 9 (.mv (.tmp 53)))])))))) .skip)) (.seq (.ops [(qS 67 (.mv (.tmp 2))), (qS 68 (.mv (.tmp 7))), (qS 69 (.pu (.n (.ar .sub)) [(.tmp 67), (.tmp 68)])), (qS 70 (.pu (.n (.ar .geq)) [(.tmp 69), (ic 2)]))]) (.cond (.tmp 70) (.seq (.ops [(qS 71 (.mv (.tmp 7))), (qS 72 (.pu (.n (.ar .add)) [(.tmp 71), (ic 1)])), (qS 10 (.mv (.tmp 72)))]) (.block 6 (.loop (.seq (.seq (.ops [(qS 73 (.mv (.tmp 10))), (qS 74 (.mv (.tmp 2))), (qS 75 (.pu (.n (.ar .lss)) [(.tmp 73), (.tmp 74)]))]) (.cond (.tmp 75) .skip (.exit 6))) (.seq (.block 7 (.seq (.seq (.ops [(qS 78 (.fieldA 0 (.tmp 3))), (qS 79 (.load 1 false (.tmp 78))), (qS 80 (.mv (.tmp 10))), (qS 81 (.mv (.tmp 10))), (qS 82 (.pu (.n (.ar .sub)) [(.tmp 81), (ic 1)])), (qS 83 (.dyn (.tmp 79) [(.tmp 80), (.tmp 82)])), (qS 84 (.pu (.n (.un .not)) [(.tmp 83)]))]) (.cond (.tmp 84) (.exit 6) .skip)) (.ops [(qS 85 (.fieldA 1 (.tmp 3))), (qS 86 (.load 1 false (.tmp 85))), (qS 87 (.mv (.tmp 10))), (qS 88 (.mv (.tmp 10))), (qS 89 (.pu (.n (.ar .sub)) [(.tmp 88), (ic 1)])), (qS 90 (.dyn (.tmp 86) [(.tmp 87), (.tmp 89)]))]))) (.ops [(qS 76 (.mv (.tmp 10))), (qS 77 (.pu (.n (.ar .add)) [(.tmp 76), (ic 1)])), (qS 10 (.mv (.tmp 77)))])))))) .skip)))))))) (.ops [(qS 15 (.mv (.tmp 8))), (qS 16 (.pu (.n (.ar .add)) [(.tmp 15), (ic 1)])), (qS 8 (.mv (.tmp 16)))])))))) (.seq (.ops [(qS 6 (.mv (.const (.bool false))))]) .ret)))), [(.tmp 6)]⟩

theorem scanSorted_le (lt : α → α → Bool) (d : Array α) (b : Nat) : ∀ (n i : Nat), b - i = n → i ≤ scanSorted lt d b i ∧ (i ≤ b → scanSorted lt d b i ≤ b)
  | 0, i, h => by
    rw [scanSorted, if_neg (by simp; omega)]
    exact ⟨Nat.le_refl _, fun h => h⟩
  | n + 1, i, h => by
    rw [scanSorted]
    split
    · have := scanSorted_le lt d b n (i + 1) (by omega)
      exact ⟨by omega, fun _ => this.2 (by omega)⟩
    · exact ⟨Nat.le_refl _, fun h => h⟩

theorem W_partialInsertionSort {L : LS env α} {H : Heap} {A : Array α} (hL : L.Lh H A) (a b : Nat) (hb : b ≤ L.sz) (hab : a < b) :
    R P env c_sort_partialInsertionSort_func [.agg [L.less, L.swap], nV a, nV b] H (PostS L H (partialInsertionSort L.lt A a b).1 (.i (.s (.bool (partialInsertionSort L.lt A a b).2)))) := by
  have big := L.big
  refine R_of (by simp [c_sort_partialInsertionSort_func]) ?_
  unfold c_sort_partialInsertionSort_func
  have f0 := Fr.start hL
  obtain ⟨S, hS⟩ : ∃ S, S = partialInsertionSort L.lt A a b := ⟨_, rfl⟩
  rw [← hS]
  simp (maxSteps := 2000000) (disch := omega) only [gw, Nat.reduceAdd, Nat.reduceMul, L.oneL, L.oneS]
  generalize H ++ [.cells [L.less, L.swap]] = h0 at f0 ⊢
  generalize H.length = B at f0 ⊢
  refine W_loopK (fun n t h => ∃ s i A', s = n ∧ t 1 = nV a ∧ t 2 = nV b ∧ t 3 = .ptr B 2 0 ∧ t 7 = nV i ∧ t 8 = nV (5 - s) ∧ s ≤ 5 ∧ a < i ∧ i ≤ b ∧ Fr L H B h A' ∧ S = partialIns L.lt a b s i A') 5 ⟨5, a + 1, A, rfl, rfl, rfl, rfl, rfl, rfl, by omega, by omega, by omega, f0, hS⟩ ?_
  clear f0 hS hL
  rintro K n t h hn hx ⟨s, i, A', rfl, g1, g2, g3, g7, g8, hs, hi, hi2, f, hS⟩
  have hret : ∀ (b : Bool) t' h' A2, t' 6 = .i (.s (.bool b)) → Fr L H B h' A2 → S = (A2, b) → K .ret t' h' := by
    intro b t' h' A2 g6 f2 e
    refine hx _ _ _ (by simp) ?_
    subst e
    simp (maxSteps := 2000000) (disch := omega) only [gw, Nat.reduceAdd, Nat.reduceMul, g6]
    exact ⟨rfl, f2.lh, f2.keep⟩
  cases s with
  | zero =>
    simp (maxSteps := 2000000) (disch := omega) only [gw, Nat.reduceAdd, Nat.reduceMul, g1, g2, g3, g7, g8, d55]
    refine hx _ _ _ (by simp) ?_
    rw [partialIns] at hS
    subst hS
    simp (maxSteps := 2000000) (disch := omega) only [gw, Nat.reduceAdd, Nat.reduceMul]
    exact ⟨rfl, f.lh, f.keep⟩
  | succ s =>
    have g8' : t 8 = nV (4 - s) := by rw [g8, show 5 - (s + 1) = 4 - s by omega]
    have h5 : (4 - s) < 5 := by omega
    have h5' : ((4 - s : Nat) : Int) < 5 := by omega
    rw [partialIns] at hS
    simp only [] at hS
    have hnext : ∀ t' h' A2 i2, t' 1 = nV a → t' 2 = nV b → t' 3 = .ptr B 2 0 → t' 7 = nV i2 → t' 8 = nV (4 - s + 1) → a < i2 → i2 ≤ b → Fr L H B h' A2 → S = partialIns L.lt a b s i2 A2 → K .normal t' h' := fun t' h' A2 i2 q1 q2 q3 q7 q8 q9 q10 q11 q12 =>
      hn _ _ _ (by omega) ⟨s, i2, A2, rfl, q1, q2, q3, q7, by rw [q8, show 4 - s + 1 = 5 - s by omega], by omega, q9, q10, q11, q12⟩
    clear hn
    clear hx g8
    simp (maxSteps := 2000000) (disch := omega) only [gw, Nat.reduceAdd, Nat.reduceMul, g1, g2, g3, g7, g8', h5']
    refine scanI2 f g1 g2 g3 g7 g8' hb (by omega) ?_
    clear g1 g2 g3 g7 g8'
    clear t
    intro t g1 g2 g3 g7 g8
    obtain ⟨b1, b2⟩ := scanSorted_le L.lt A' b _ i rfl
    replace b2 := b2 hi2
    generalize scanSorted L.lt A' b i = i2 at hS g7 b1 b2
    by_cases e1 : i2 = b
    · rw [if_pos e1] at hS
      have e1' : (i2 : Int) = (b : Int) := by omega
      simp (maxSteps := 2000000) (disch := omega) only [gw, Nat.reduceAdd, Nat.reduceMul, g1, g2, g3, g7, g8, e1']
      exact hret _ _ _ _ rfl f hS
    · rw [if_neg e1] at hS
      have e1' : ¬ (i2 : Int) = (b : Int) := by omega
      by_cases e2 : b - a < 50
      · rw [if_pos e2] at hS
        have e2' : ((b - a : Nat) : Int) < 50 := by omega
        simp (maxSteps := 2000000) (disch := omega) only [gw, Nat.reduceAdd, Nat.reduceMul, g1, g2, g3, g7, g8, e1', e2']
        exact hret _ _ _ _ rfl f hS
      · rw [if_neg e2] at hS
        have e2' : ¬ ((b - a : Nat) : Int) < 50 := by omega
        obtain ⟨h1, hw, f1⟩ := f.swapN i2 (i2 - 1) (by omega) (by omega)
        by_cases e4 : i2 - a ≥ 2
        · rw [if_pos e4] at hS
          have e4' : (2 : Int) ≤ ((i2 - a : Nat) : Int) := by omega
          simp (maxSteps := 2000000) (disch := omega) only [gw, Nat.reduceAdd, Nat.reduceMul, g1, g2, g3, g7, g8, e1', e2', f.ldS, hw, e4']
          refine loopI4 f1 g1 g2 g3 g7 g8 rfl (by omega) ?_
          clear g1 g2 g3 g7 g8 f hw f1
          clear t
          intro t h g1 g2 g3 g7 g8 f
          by_cases e3 : b - i2 ≥ 2
          · rw [if_pos e3] at hS
            have e3' : (2 : Int) ≤ ((b - i2 : Nat) : Int) := by omega
            simp (maxSteps := 2000000) (disch := omega) only [gw, Nat.reduceAdd, Nat.reduceMul, g1, g2, g3, g7, g8, e3']
            refine loopI6 f g1 g2 g3 g7 g8 rfl (by omega) hb ?_
            clear g1 g2 g3 g7 g8
            clear t
            intro t h g1 g2 g3 g7 g8 f
            simp (maxSteps := 2000000) (disch := omega) only [gw, Nat.reduceAdd, Nat.reduceMul, g1, g2, g3, g7, g8]
            exact hnext _ _ _ _ g1 g2 g3 g7 rfl (by omega) b2 f hS
          · rw [if_neg e3] at hS
            have e3' : ¬ (2 : Int) ≤ ((b - i2 : Nat) : Int) := by omega
            simp (maxSteps := 2000000) (disch := omega) only [gw, Nat.reduceAdd, Nat.reduceMul, g1, g2, g3, g7, g8, e3']
            exact hnext _ _ _ _ g1 g2 g3 g7 rfl (by omega) b2 f hS
        · rw [if_neg e4] at hS
          have e4' : ¬ (2 : Int) ≤ ((i2 - a : Nat) : Int) := by omega
          by_cases e3 : b - i2 ≥ 2
          · rw [if_pos e3] at hS
            have e3' : (2 : Int) ≤ ((b - i2 : Nat) : Int) := by omega
            simp (maxSteps := 2000000) (disch := omega) only [gw, Nat.reduceAdd, Nat.reduceMul, g1, g2, g3, g7, g8, e3', e1', e2', f.ldS, hw, e4']
            refine loopI6 f1 g1 g2 g3 g7 g8 rfl (by omega) hb ?_
            clear g1 g2 g3 g7 g8
            clear t
            intro t h g1 g2 g3 g7 g8 f
            simp (maxSteps := 2000000) (disch := omega) only [gw, Nat.reduceAdd, Nat.reduceMul, g1, g2, g3, g7, g8]
            exact hnext _ _ _ _ g1 g2 g3 g7 rfl (by omega) b2 f hS
          · rw [if_neg e3] at hS
            have e3' : ¬ (2 : Int) ≤ ((b - i2 : Nat) : Int) := by omega
            simp (maxSteps := 2000000) (disch := omega) only [gw, Nat.reduceAdd, Nat.reduceMul, g1, g2, g3, g7, g8, e3', e1', e2', f.ldS, hw, e4']
            exact hnext _ _ _ _ g1 g2 g3 g7 rfl (by omega) b2 f1 hS
end Go.AM

set_option linter.unusedVariables false
set_option linter.unusedSimpArgs false
set_option maxRecDepth 20000
namespace Go.AM
open Go.Sort
variable {P : Program} {env : Env} {α : Type} [Inhabited α]

/-- The blocks from n on stay as they are, all but one. -/
structure KeepP (n C : Nat) (H H' : Heap) : Prop where
  le : H.length ≤ H'.length
  at_ : ∀ b, n ≤ b → b < H.length → b ≠ C → H'[b]? = H[b]?
theorem KeepP.trans {n C : Nat} {H H1 H2 : Heap} (a : KeepP n C H H1) (b : KeepP n C H1 H2) : KeepP n C H H2 :=
  ⟨Nat.le_trans a.le b.le, fun x h1 h2 h3 => (b.at_ x h1 (Nat.lt_of_lt_of_le h2 a.le) h3).trans (a.at_ x h1 h2 h3)⟩

/-- A function of the sort that counts swaps in a cell and leaves the row. -/
structure PostP (L : LS env α) (C s : Nat) (H : Heap) (A : Array α) (v0 : V) (v : V) (H' : Heap) : Prop where
  val : v = v0
  lh : L.Lh H' A
  keep : KeepP L.n C H H'
  cell : H'[C]? = some (.cells [nV s])

def CP (L : LS env α) (c : Nat) (args : List V) (C s : Nat) (H : Heap) (A : Array α) (v0 : V) : Prop := ∃ h', env c none args H = some (v0, h') ∧ L.Lh h' A ∧ KeepP L.n C H h' ∧ h'[C]? = some (.cells [nV s])

theorem CP.of {L : LS env α} {c C s : Nat} {args : List V} {H : Heap} {A : Array α} {v0 : V} {F : AFn} (he : ∀ H, env c none args H = runIn P env F none args H) (h : R P env F args H (PostP L C s H A v0)) : CP L c args C s H A v0 := by
  obtain ⟨⟨v, h'⟩, h1, h2⟩ := h
  have p : PostP L C s H A v0 v h' := h2
  refine ⟨h', ?_, p.lh, p.keep, p.cell⟩
  rw [he]
  exact h1.trans (by rw [p.val])

theorem cellN {h : Heap} {C : Nat} {x : V} (hc : h[C]? = some (.cells [x])) : getCells h C 1 = some [x] := by
  unfold getCells
  rw [hc]
  simp
theorem ldN {h : Heap} {C : Nat} {x : V} (hc : h[C]? = some (.cells [x])) : stepLoad 1 false h (.ptr C 1 0) = some x := by
  simp [stepLoad, cellN hc, rowV]
theorem stN {h : Heap} {C : Nat} {x y : V} (hy : y.one = true) (hc : h[C]? = some (.cells [x])) : stepStoreC 1 h [y] (.ptr C 1 0) = some (h.set C (.cells [y])) := by
  simp [stepStoreC, cellN hc, hy, splice]

def c_sort_order2_func : AFn := ⟨24, (.seq (.ops [(qS 4 (.box (.tmp 0))), (qS 8 (.mv (ic 0))), (qS 9 (.mv (ic 0)))]) (.seq (.seq (.ops [(qS 10 (.fieldA 0 (.tmp 4))), (qS 11 (.load 1 false (.tmp 10))), (qS 12 (.mv (.tmp 2))), (qS 13 (.mv (.tmp 1))), (qS 14 (.dyn (.tmp 11) [(.tmp 12), (.tmp 13)]))]) (.cond (.tmp 14) (.seq (.ops [(qS 15 (.mv (.tmp 3))), (qS 16 (.nilChk (.tmp 15))), (qS 17 (.load 1 false (.tmp 16))), (qS 18 (.pu (.n (.ar .add)) [(.tmp 17), (ic 1)])), (qS 19 (.nilChk (.tmp 15))), ⟨.none, (.storeV [(0, false)] 1 (.tmp 19) (.tmp 18)), .none, [], .none⟩]) (.seq (.ops [(qS 20 (.mv (.tmp 2))), (qS 21 (.mv (.tmp 1))), (qS 8 (.mv (.tmp 20))), (qS 9 (.mv (.tmp 21)))]) .ret)) .skip)) (.seq (.ops [(qS 22 (.mv (.tmp 1))), (qS 23 (.mv (.tmp 2))), (qS 8 (.mv (.tmp 22))), (qS 9 (.mv (.tmp 23)))]) .ret))), [(.tmp 8), (.tmp 9)]⟩

theorem W_order2 {L : LS env α} {H : Heap} {A : Array α} (hL : L.Lh H A) (a b C s : Nat) (ha : a < L.sz) (hb : b < L.sz) (hn : L.n ≤ C) (hC : H[C]? = some (.cells [nV s])) (hs : s < 100) :
    R P env c_sort_order2_func [.agg [L.less, L.swap], nV a, nV b, .ptr C 1 0] H (PostP L C (order2 L.lt A a b s).2.2 H A (.tup [nV (order2 L.lt A a b s).1, nV (order2 L.lt A a b s).2.1])) := by
  have big := L.big
  refine R_of (by simp [c_sort_order2_func]) ?_
  unfold c_sort_order2_func
  have f0 := Fr.start hL
  have hlt : C < H.length := (List.getElem?_eq_some_iff.1 hC).1
  have hC2 : (H ++ [.cells [L.less, L.swap]])[C]? = some (.cells [nV s]) := by rw [List.getElem?_append_left hlt]; exact hC
  have hl := f0.lessN b a hb ha
  have ld := ldN hC2
  have st : stepStoreC 1 (H ++ [.cells [L.less, L.swap]]) [nV (s + 1)] (.ptr C 1 0) = _ := stN rfl hC2
  have l0 := f0.ldL
  have len : (H ++ [Slot.cells [L.less, L.swap]]).length = H.length + 1 := by simp
  have kp := f0.keep
  obtain ⟨S, hS⟩ : ∃ S, S = order2 L.lt A a b s := ⟨_, rfl⟩
  rw [← hS]
  unfold order2 at hS
  simp (maxSteps := 2000000) (disch := omega) only [gw, Nat.reduceAdd, Nat.reduceMul, L.oneL, L.oneS]
  have lh := f0.lh
  clear f0
  generalize H ++ [Slot.cells [L.less, L.swap]] = h0 at hC2 hl ld st l0 kp lh len ⊢
  by_cases hp : L.lt A[b]! A[a]! = true
  · rw [if_pos hp] at hS
    rw [hp] at hl
    subst hS
    simp (maxSteps := 2000000) (disch := omega) only [gw, Nat.reduceAdd, Nat.reduceMul, l0, hl, ld, st]
    refine ⟨rfl, L.same lh (by simp) (fun x hx => List.getElem?_set_ne (by omega)), ⟨by rw [List.length_set]; exact kp.le, fun x h1 h2 h3 => ?_⟩, ?_⟩
    · rw [List.getElem?_set_ne (fun e => h3 e.symm)]; exact kp.at_ x h1 h2
    · exact List.getElem?_set_self (by omega)
  · rw [if_neg hp] at hS
    rw [Bool.not_eq_true] at hp
    rw [hp] at hl
    subst hS
    simp (maxSteps := 2000000) (disch := omega) only [gw, Nat.reduceAdd, Nat.reduceMul, l0, hl, ld, st]
    exact ⟨rfl, lh, ⟨kp.le, fun x h1 h2 _ => kp.at_ x h1 h2⟩, hC2⟩

/-- A walk's heap, with a cell that counts. -/
structure FrP (L : LS env α) (H : Heap) (B C : Nat) (h : Heap) (A : Array α) (s : Nat) : Prop where
  lh : L.Lh h A
  keep : KeepP L.n C H h
  box : h[B]? = some (.cells [L.less, L.swap])
  cell : h[C]? = some (.cells [nV s])
  low : L.n ≤ B
  lowC : L.n ≤ C
  ne : B ≠ C

theorem FrP.start {L : LS env α} {H : Heap} {A : Array α} {C s : Nat} (hL : L.Lh H A) (hn : L.n ≤ C) (hC : H[C]? = some (.cells [nV s])) : FrP L H H.length C (H ++ [.cells [L.less, L.swap]]) A s where
  lh := L.same hL (by simp) (fun b hb => List.getElem?_append_left (Nat.lt_of_lt_of_le hb (L.low hL)))
  keep := ⟨by simp, fun b _ h _ => List.getElem?_append_left h⟩
  box := by simp
  cell := by rw [List.getElem?_append_left (List.getElem?_eq_some_iff.1 hC).1]; exact hC
  low := L.low hL
  lowC := hn
  ne := by have := (List.getElem?_eq_some_iff.1 hC).1; omega
theorem FrP.lt {L : LS env α} {H h : Heap} {B C s : Nat} {A : Array α} (f : FrP L H B C h A s) : B < h.length := (List.getElem?_eq_some_iff.1 f.box).1
theorem FrP.next {L : LS env α} {H h h' : Heap} {B C s s' : Nat} {A : Array α} (f : FrP L H B C h A s) (l : L.Lh h' A) (k : KeepP L.n C h h') (c : h'[C]? = some (.cells [nV s'])) : FrP L H B C h' A s' :=
  ⟨l, f.keep.trans k, (k.at_ B f.low f.lt f.ne).trans f.box, c, f.low, f.lowC, f.ne⟩
theorem FrP.ldB {L : LS env α} {H h : Heap} {B C s : Nat} {A : Array α} (f : FrP L H B C h A s) : stepLoad 2 true h (.ptr B 2 0) = some (.agg [L.less, L.swap]) := by
  have : getCells h B 2 = some [L.less, L.swap] := by unfold getCells; rw [f.box]; simp
  simp [stepLoad, this, rowV]

theorem order2_lt {lt : α → α → Bool} {A : Array α} {a b s n : Nat} (ha : a < n) (hb : b < n) : (order2 lt A a b s).1 < n ∧ (order2 lt A a b s).2.1 < n ∧ (order2 lt A a b s).2.2 ≤ s + 1 := by
  unfold order2
  split
  · exact ⟨hb, ha, Nat.le_refl _⟩
  · exact ⟨ha, hb, Nat.le_succ _⟩
theorem median_lt {lt : α → α → Bool} {A : Array α} {a b c s n : Nat} (ha : a < n) (hb : b < n) (hc : c < n) : (median lt A a b c s).1 < n ∧ (median lt A a b c s).2 ≤ s + 3 := by
  unfold median
  obtain ⟨a1, a2, a3⟩ := order2_lt (lt := lt) (A := A) (s := s) ha hb
  obtain ⟨b1, b2, b3⟩ := order2_lt (lt := lt) (A := A) (s := (order2 lt A a b s).2.2) a2 hc
  obtain ⟨c1, c2, c3⟩ := order2_lt (lt := lt) (A := A) (s := (order2 lt A (order2 lt A a b s).2.1 c (order2 lt A a b s).2.2).2.2) a1 b1
  exact ⟨c2, by simp only; omega⟩

def c_sort_median_func (f_sort_order2_func : Nat) : AFn := ⟨36, (.seq (.ops [(qS 5 (.box (.tmp 0))), (qS 10 (.mv (ic 0)))]) (.seq (.ops [(qS 12 (.load 2 true (.tmp 5))), (qS 13 (.mv (.tmp 1))), (qS 14 (.mv (.tmp 2))), (qS 15 (.mv (.tmp 4))), (qS 16 (.call (2 * f_sort_order2_func + 1) [(.tmp 12), (.tmp 13), (.tmp 14), (.tmp 15)])), (qS 11 (.mv (.tmp 16))), (qS 17 (.extract 0 (.tmp 11))), (qS 18 (.extract 1 (.tmp 11))), (qS 1 (.mv (.tmp 17))), (qS 2 (.mv (.tmp 18)))]) (.seq (.ops [(qS 20 (.load 2 true (.tmp 5))), (qS 21 (.mv (.tmp 2))), (qS 22 (.mv (.tmp 3))), (qS 23 (.mv (.tmp 4))), (qS 24 (.call (2 * f_sort_order2_func + 1) [(.tmp 20), (.tmp 21), (.tmp 22), (.tmp 23)])), (qS 19 (.mv (.tmp 24))), (qS 25 (.extract 0 (.tmp 19))), (qS 26 (.extract 1 (.tmp 19))), (qS 2 (.mv (.tmp 25))), (qS 3 (.mv (.tmp 26)))]) (.seq (.ops [(qS 28 (.load 2 true (.tmp 5))), (qS 29 (.mv (.tmp 1))), (qS 30 (.mv (.tmp 2))), (qS 31 (.mv (.tmp 4))), (qS 32 (.call (2 * f_sort_order2_func + 1) [(.tmp 28), (.tmp 29), (.tmp 30), (.tmp 31)])), (qS 27 (.mv (.tmp 32))), (qS 33 (.extract 0 (.tmp 27))), (qS 34 (.extract 1 (.tmp 27))), (qS 1 (.mv (.tmp 33))), (qS 2 (.mv (.tmp 34)))]) (.seq (.ops [(qS 35 (.mv (.tmp 2))), (qS 10 (.mv (.tmp 35)))]) .ret))))), [(.tmp 10)]⟩

theorem W_median {L : LS env α} {fO : Nat} {H : Heap} {A : Array α} {C : Nat} (ko : ∀ {H : Heap}, L.Lh H A → ∀ a b s : Nat, a < L.sz → b < L.sz → H[C]? = some (.cells [nV s]) → s < 100 →
      CP L (2 * fO + 1) [.agg [L.less, L.swap], nV a, nV b, .ptr C 1 0] C (order2 L.lt A a b s).2.2 H A (.tup [nV (order2 L.lt A a b s).1, nV (order2 L.lt A a b s).2.1]))
    (hL : L.Lh H A) (a b c s : Nat) (ha : a < L.sz) (hb : b < L.sz) (hc : c < L.sz) (hn : L.n ≤ C) (hC : H[C]? = some (.cells [nV s])) (hs : s < 50) :
    R P env (c_sort_median_func fO) [.agg [L.less, L.swap], nV a, nV b, nV c, .ptr C 1 0] H (PostP L C (median L.lt A a b c s).2 H A (nV (median L.lt A a b c s).1)) := by
  have big := L.big
  refine R_of (by simp [c_sort_median_func]) ?_
  unfold c_sort_median_func
  have f0 := FrP.start hL hn hC
  obtain ⟨S, hS⟩ : ∃ S, S = median L.lt A a b c s := ⟨_, rfl⟩
  rw [← hS]
  unfold median at hS
  simp only [] at hS
  obtain ⟨a1, a2, a3⟩ := order2_lt (lt := L.lt) (A := A) (s := s) ha hb
  obtain ⟨h1, c1, l1, k1, d1⟩ := ko f0.lh a b s ha hb f0.cell (by omega)
  have f1 := f0.next l1 k1 d1
  generalize order2 L.lt A a b s = r1 at *
  obtain ⟨b1, b2, b3⟩ := order2_lt (lt := L.lt) (A := A) (s := r1.2.2) a2 hc
  obtain ⟨h2, c2, l2, k2, d2⟩ := ko f1.lh r1.2.1 c r1.2.2 a2 hc f1.cell (by omega)
  have f2 := f1.next l2 k2 d2
  generalize order2 L.lt A r1.2.1 c r1.2.2 = r2 at *
  obtain ⟨h3, c3, l3, k3, d3⟩ := ko f2.lh r1.1 r2.1 r2.2.2 a1 b1 f2.cell (by omega)
  have f3 := f2.next l3 k3 d3
  generalize order2 L.lt A r1.1 r2.1 r2.2.2 = r3 at *
  subst hS
  have q0 := f0.ldB
  have q1 := f1.ldB
  have q2 := f2.ldB
  simp (maxSteps := 2000000) (disch := omega) only [gw, Nat.reduceAdd, Nat.reduceMul, L.oneL, L.oneS, q0, c1, q1, c2, q2, c3]
  exact ⟨rfl, f3.lh, f3.keep, f3.cell⟩

def c_sort_medianAdjacent_func (f_sort_median_func : Nat) : AFn := ⟨15, (.seq (.ops [(qS 3 (.box (.tmp 0))), (qS 6 (.mv (ic 0)))]) (.seq (.ops [(qS 7 (.load 2 true (.tmp 3))), (qS 8 (.mv (.tmp 1))), (qS 9 (.pu (.n (.ar .sub)) [(.tmp 8), (ic 1)])), (qS 10 (.mv (.tmp 1))), (qS 11 (.mv (.tmp 1))), (qS 12 (.pu (.n (.ar .add)) [(.tmp 11), (ic 1)])), (qS 13 (.mv (.tmp 2))), (qS 14 (.call (2 * f_sort_median_func + 1) [(.tmp 7), (.tmp 9), (.tmp 10), (.tmp 12), (.tmp 13)])), (qS 6 (.mv (.tmp 14)))]) .ret)), [(.tmp 6)]⟩

theorem W_medianAdjacent {L : LS env α} {fM : Nat} {H : Heap} {A : Array α} {C : Nat} (km : ∀ {H : Heap}, L.Lh H A → ∀ a b c s : Nat, a < L.sz → b < L.sz → c < L.sz → H[C]? = some (.cells [nV s]) → s < 50 →
      CP L (2 * fM + 1) [.agg [L.less, L.swap], nV a, nV b, nV c, .ptr C 1 0] C (median L.lt A a b c s).2 H A (nV (median L.lt A a b c s).1))
    (hL : L.Lh H A) (a s : Nat) (ha : a + 1 < L.sz) (h1 : 1 ≤ a) (hn : L.n ≤ C) (hC : H[C]? = some (.cells [nV s])) (hs : s < 50) :
    R P env (c_sort_medianAdjacent_func fM) [.agg [L.less, L.swap], nV a, .ptr C 1 0] H (PostP L C (medianAdjacent L.lt A a s).2 H A (nV (medianAdjacent L.lt A a s).1)) := by
  have big := L.big
  refine R_of (by simp [c_sort_medianAdjacent_func]) ?_
  unfold c_sort_medianAdjacent_func
  have f0 := FrP.start hL hn hC
  unfold medianAdjacent
  obtain ⟨h1, c1, l1, k1, d1⟩ := km f0.lh (a - 1) a (a + 1) s (by omega) (by omega) (by omega) f0.cell (by omega)
  have f1 := f0.next l1 k1 d1
  have q0 := f0.ldB
  simp (maxSteps := 2000000) (disch := omega) only [gw, Nat.reduceAdd, Nat.reduceMul, L.oneL, L.oneS, q0, c1]
  exact ⟨rfl, f1.lh, f1.keep, f1.cell⟩
end Go.AM

set_option linter.unusedVariables false
set_option linter.unusedSimpArgs false
set_option maxRecDepth 20000
namespace Go.AM
open Go.Sort
variable {P : Program} {env : Env} {α : Type} [Inhabited α]

def hintN : Hint → Nat
  | .unknown => 0
  | .increasing => 1
  | .decreasing => 2

/-- A walk's heap: the two functions, and a cell of its own. -/
structure FrC (L : LS env α) (H : Heap) (B C : Nat) (h : Heap) (A : Array α) (s : Nat) : Prop where
  lh : L.Lh h A
  keep : KeepS L.n H h
  box : h[B]? = some (.cells [L.less, L.swap])
  cell : h[C]? = some (.cells [nV s])
  low : L.n ≤ B
  lowC : L.n ≤ C
  new : H.length ≤ C
  ne : B ≠ C

theorem FrC.start {L : LS env α} {H : Heap} {A : Array α} (hL : L.Lh H A) (s : Nat) : FrC L H H.length (H.length + 1) (H ++ [.cells [L.less, L.swap], .cells [nV s]]) A s where
  lh := L.same hL (by simp) (fun b hb => List.getElem?_append_left (Nat.lt_of_lt_of_le hb (L.low hL)))
  keep := KeepS.app _ _ _
  box := by simp
  cell := by rw [List.getElem?_append_right (by omega)]; simp
  low := L.low hL
  lowC := Nat.le_succ_of_le (L.low hL)
  new := Nat.le_succ _
  ne := by omega
theorem FrC.lt {L : LS env α} {H h : Heap} {B C s : Nat} {A : Array α} (f : FrC L H B C h A s) : B < h.length := (List.getElem?_eq_some_iff.1 f.box).1
theorem FrC.next {L : LS env α} {H h h' : Heap} {B C s s' : Nat} {A : Array α} (f : FrC L H B C h A s) (l : L.Lh h' A) (k : KeepP L.n C h h') (c : h'[C]? = some (.cells [nV s'])) : FrC L H B C h' A s' where
  lh := l
  keep := ⟨Nat.le_trans f.keep.le k.le, fun b h1 h2 => (k.at_ b h1 (Nat.lt_of_lt_of_le h2 f.keep.le) (by have := f.new; omega)).trans (f.keep.at_ b h1 h2)⟩
  box := (k.at_ B f.low f.lt f.ne).trans f.box
  cell := c
  low := f.low
  lowC := f.lowC
  new := f.new
  ne := f.ne
theorem FrC.ldB {L : LS env α} {H h : Heap} {B C s : Nat} {A : Array α} (f : FrC L H B C h A s) : stepLoad 2 true h (.ptr B 2 0) = some (.agg [L.less, L.swap]) := by
  have : getCells h B 2 = some [L.less, L.swap] := by unfold getCells; rw [f.box]; simp
  simp [stepLoad, this, rowV]

theorem nI_mul1 {a : Nat} : (a : Int) * 1 = ((a * 1 : Nat) : Int) := by omega
theorem nI_mul2 {a : Nat} : (a : Int) * 2 = ((a * 2 : Nat) : Int) := by omega
theorem nI_mul3 {a : Nat} : (a : Int) * 3 = ((a * 3 : Nat) : Int) := by omega

def c_sort_choosePivot_func (f_sort_medianAdjacent_func : Nat) (f_sort_median_func : Nat) : AFn := ⟨57, (.seq (.ops [(qS 3 (.box (.tmp 0))), (qS 6 (.mv (ic 0))), (qS 7 (.mv (ic 0)))]) (.seq (.ops [(qS 13 (.mv (.tmp 2))), (qS 14 (.mv (.tmp 1))), (qS 15 (.pu (.n (.ar .sub)) [(.tmp 13), (.tmp 14)])), (qS 8 (.mv (.tmp 15)))]) (.seq (.ops [(qS 9 (.allocV [(0, false)] [(.int .i64 0)]))]) (.seq (.ops [(qS 16 (.mv (.tmp 1))), (qS 17 (.mv (.tmp 8))), (qS 18 (.pu (.n (.ar .quo)) [(.tmp 17), (ic 4)])), (qS 19 (.pu (.n (.ar .mul)) [(.tmp 18), (ic 1)])), (qS 20 (.pu (.n (.ar .add)) [(.tmp 16), (.tmp 19)])), (qS 10 (.mv (.tmp 20)))]) (.seq (.ops [(qS 21 (.mv (.tmp 1))), (qS 22 (.mv (.tmp 8))), (qS 23 (.pu (.n (.ar .quo)) [(.tmp 22), (ic 4)])), (qS 24 (.pu (.n (.ar .mul)) [(.tmp 23), (ic 2)])), (qS 25 (.pu (.n (.ar .add)) [(.tmp 21), (.tmp 24)])), (qS 11 (.mv (.tmp 25)))]) (.seq (.ops [(qS 26 (.mv (.tmp 1))), (qS 27 (.mv (.tmp 8))), (qS 28 (.pu (.n (.ar .quo)) [(.tmp 27), (ic 4)])), (qS 29 (.pu (.n (.ar .mul)) [(.tmp 28), (ic 3)])), (qS 30 (.pu (.n (.ar .add)) [(.tmp 26), (.tmp 29)])), (qS 12 (.mv (.tmp 30)))]) (.seq (.seq (.ops [(qS 31 (.mv (.tmp 8))), (qS 32 (.pu (.n (.ar .geq)) [(.tmp 31), (ic 8)]))]) (.cond (.tmp 32) (.seq (.seq (.ops [(qS 33 (.mv (.tmp 8))), (qS 34 (.pu (.n (.ar .geq)) [(.tmp 33), (ic 50)]))]) (.cond (.tmp 34) (.seq (.ops [(qS 35 (.load 2 true (.tmp 3))), (qS 36 (.mv (.tmp 10))), (qS 37 (.call (2 * f_sort_medianAdjacent_func + 1) [(.tmp 35), (.tmp 36), (.tmp 9)])), (qS 10 (.mv (.tmp 37)))]) (.seq (.ops [(qS 38 (.load 2 true (.tmp 3))), (qS 39 (.mv (.tmp 11))), (qS 40 (.call (2 * f_sort_medianAdjacent_func + 1) [(.tmp 38), (.tmp 39), (.tmp 9)])), (qS 11 (.mv (.tmp 40)))]) (.ops [(qS 41 (.load 2 true (.tmp 3))), (qS 42 (.mv (.tmp 12))), (qS 43 (.call (2 * f_sort_medianAdjacent_func + 1) [(.tmp 41), (.tmp 42), (.tmp 9)])), (qS 12 (.mv (.tmp 43)))]))) .skip)) (.ops [(qS 44 (.load 2 true (.tmp 3))), (qS 45 (.mv (.tmp 10))), (qS 46 (.mv (.tmp 11))), (qS 47 (.mv (.tmp 12))), (qS 48 (.call (2 * f_sort_median_func + 1) [(.tmp 44), (.tmp 45), (.tmp 46), (.tmp 47), (.tmp 9)])), (qS 11 (.mv (.tmp 48)))])) .skip)) (.seq (.ops [(qS 49 (.load 1 false (.tmp 9)))]) (.block 0 (.seq (.ops [(qS 52 (.pu (.n (.ar .eql)) [(.tmp 49), (ic 0)])), (qS 51 (.mv (.tmp 52)))]) (.cond (.tmp 51) (.seq (.ops [(qS 53 (.mv (.tmp 11))), (qS 6 (.mv (.tmp 53))), (qS 7 (.mv (ic 1)))]) .ret) (.seq (.ops [(qS 55 (.pu (.n (.ar .eql)) [(.tmp 49), (ic 12)])), (qS 54 (.mv (.tmp 55)))]) (.cond (.tmp 54) (.seq (.ops [(qS 56 (.mv (.tmp 11))), (qS 6 (.mv (.tmp 56))), (qS 7 (.mv (ic 2)))]) .ret) (.seq (.ops [(qS 50 (.mv (.tmp 11))), (qS 6 (.mv (.tmp 50))), (qS 7 (.mv (ic 0)))]) .ret)))))))))))))), [(.tmp 6), (.tmp 7)]⟩

theorem W_choosePivot {L : LS env α} {fA fM : Nat}
    (ka : ∀ {H : Heap} {A : Array α}, L.Lh H A → ∀ a s C : Nat, a + 1 < L.sz → 1 ≤ a → L.n ≤ C → H[C]? = some (.cells [nV s]) → s < 50 → CP L (2 * fA + 1) [.agg [L.less, L.swap], nV a, .ptr C 1 0] C (medianAdjacent L.lt A a s).2 H A (nV (medianAdjacent L.lt A a s).1))
    (km : ∀ {H : Heap} {A : Array α}, L.Lh H A → ∀ a b c s C : Nat, a < L.sz → b < L.sz → c < L.sz → L.n ≤ C → H[C]? = some (.cells [nV s]) → s < 50 → CP L (2 * fM + 1) [.agg [L.less, L.swap], nV a, nV b, nV c, .ptr C 1 0] C (median L.lt A a b c s).2 H A (nV (median L.lt A a b c s).1))
    {H : Heap} {A : Array α} (hL : L.Lh H A) (a b : Nat) (hab : a < b) (hb : b ≤ L.sz) :
    R P env (c_sort_choosePivot_func fA fM) [.agg [L.less, L.swap], nV a, nV b] H (PostS L H A (.tup [nV (choosePivot L.lt A a b).1, nV (hintN (choosePivot L.lt A a b).2)])) := by
  have big := L.big
  refine R_of (by simp [c_sort_choosePivot_func]) ?_
  unfold c_sort_choosePivot_func
  have f0 : FrC L H H.length (H.length + 1) (H ++ [.cells [L.less, L.swap], .cells [.i (.s (.int .i64 0))]]) A 0 := FrC.start hL 0
  have q0 := f0.ldB
  obtain ⟨S, hS⟩ : ∃ S, S = choosePivot L.lt A a b := ⟨_, rfl⟩
  rw [← hS]
  unfold choosePivot at hS
  simp only [Nat.mul_one] at hS
  obtain ⟨l, hl⟩ : ∃ l, l = b - a := ⟨_, rfl⟩
  rw [← hl] at hS
  obtain ⟨q, hq⟩ : ∃ q, q = l / 4 := ⟨_, rfl⟩
  rw [← hq] at hS
  by_cases e8 : l ≥ 8
  · rw [if_pos e8] at hS
    have e8' : (8 : Int) ≤ (l : Int) := by omega
    by_cases e5 : l ≥ 50
    · rw [if_pos e5] at hS
      have e5' : (50 : Int) ≤ (l : Int) := by omega
      have mi := median_lt (lt := L.lt) (A := A) (s := 0) (n := L.sz) (a := a + q - 1) (b := a + q) (c := a + q + 1) (by omega) (by omega) (by omega)
      have e1 : medianAdjacent L.lt A (a + q) 0 = median L.lt A (a + q - 1) (a + q) (a + q + 1) 0 := rfl
      rw [← e1] at mi
      obtain ⟨h1, c1, l1, k1, d1⟩ := ka f0.lh (a + q) 0 _ (by omega) (by omega) f0.lowC f0.cell (by omega)
      have f1 := f0.next l1 k1 d1
      clear e1
      generalize medianAdjacent L.lt A (a + q) 0 = r1 at *
      have mj := median_lt (lt := L.lt) (A := A) (s := r1.2) (n := L.sz) (a := a + q * 2 - 1) (b := a + q * 2) (c := a + q * 2 + 1) (by omega) (by omega) (by omega)
      have e1 : medianAdjacent L.lt A (a + q * 2) r1.2 = median L.lt A (a + q * 2 - 1) (a + q * 2) (a + q * 2 + 1) r1.2 := rfl
      rw [← e1] at mj
      obtain ⟨h2, c2, l2, k2, d2⟩ := ka f1.lh (a + q * 2) r1.2 _ (by omega) (by omega) f1.lowC f1.cell (by omega)
      have f2 := f1.next l2 k2 d2
      clear e1
      generalize medianAdjacent L.lt A (a + q * 2) r1.2 = r2 at *
      have mk := median_lt (lt := L.lt) (A := A) (s := r2.2) (n := L.sz) (a := a + q * 3 - 1) (b := a + q * 3) (c := a + q * 3 + 1) (by omega) (by omega) (by omega)
      have e1 : medianAdjacent L.lt A (a + q * 3) r2.2 = median L.lt A (a + q * 3 - 1) (a + q * 3) (a + q * 3 + 1) r2.2 := rfl
      rw [← e1] at mk
      obtain ⟨h3, c3, l3, k3, d3⟩ := ka f2.lh (a + q * 3) r2.2 _ (by omega) (by omega) f2.lowC f2.cell (by omega)
      have f3 := f2.next l3 k3 d3
      clear e1
      generalize medianAdjacent L.lt A (a + q * 3) r2.2 = r3 at *
      have mr := median_lt (lt := L.lt) (A := A) (s := r3.2) (n := L.sz) mi.1 mj.1 mk.1
      obtain ⟨h4, c4, l4, k4, d4⟩ := km f3.lh r1.1 r2.1 r3.1 r3.2 _ mi.1 mj.1 mk.1 f3.lowC f3.cell (by omega)
      have f4 := f3.next l4 k4 d4
      generalize median L.lt A r1.1 r2.1 r3.1 r3.2 = r at *
      have q1 := f1.ldB
      have q2 := f2.ldB
      have q3 := f3.ldB
      have ld := ldN f4.cell
      by_cases z0 : r.2 = 0
      · rw [if_pos z0] at hS
        have z0' : (r.2 : Int) = 0 := by omega
        subst hS
        simp (maxSteps := 2000000) (disch := omega) only [gw, Nat.reduceAdd, Nat.reduceMul, L.oneL, L.oneS, ← hl, nI_div4, nI_mul1, nI_mul2, nI_mul3, ← hq, e8', e5', q0, c1, q1, c2, q2, c3, q3, c4, ld, z0']
        exact ⟨rfl, f4.lh, f4.keep⟩
      · rw [if_neg z0] at hS
        have z0' : ¬ (r.2 : Int) = 0 := by omega
        by_cases z2 : r.2 = 12
        · rw [if_pos z2] at hS
          have z2' : (r.2 : Int) = 12 := by omega
          have z3' : ¬ (12 : Int) = 0 := by omega
          subst hS
          simp (maxSteps := 2000000) (disch := omega) only [gw, Nat.reduceAdd, Nat.reduceMul, L.oneL, L.oneS, ← hl, nI_div4, nI_mul1, nI_mul2, nI_mul3, ← hq, e8', e5', q0, c1, q1, c2, q2, c3, q3, c4, ld, z2', z3']
          exact ⟨rfl, f4.lh, f4.keep⟩
        · rw [if_neg z2] at hS
          have z2' : ¬ (r.2 : Int) = 12 := by omega
          subst hS
          simp (maxSteps := 2000000) (disch := omega) only [gw, Nat.reduceAdd, Nat.reduceMul, L.oneL, L.oneS, ← hl, nI_div4, nI_mul1, nI_mul2, nI_mul3, ← hq, e8', e5', q0, c1, q1, c2, q2, c3, q3, c4, ld, z0', z2']
          exact ⟨rfl, f4.lh, f4.keep⟩
    · rw [if_neg e5] at hS
      have e5' : ¬ (50 : Int) ≤ (l : Int) := by omega
      have mr := median_lt (lt := L.lt) (A := A) (s := 0) (n := L.sz) (a := a + q) (b := a + q * 2) (c := a + q * 3) (by omega) (by omega) (by omega)
      obtain ⟨h4, c4, l4, k4, d4⟩ := km f0.lh (a + q) (a + q * 2) (a + q * 3) 0 _ (by omega) (by omega) (by omega) f0.lowC f0.cell (by omega)
      have f4 := f0.next l4 k4 d4
      generalize median L.lt A (a + q) (a + q * 2) (a + q * 3) 0 = r at *
      have ld := ldN f4.cell
      by_cases z0 : r.2 = 0
      · rw [if_pos z0] at hS
        have z0' : (r.2 : Int) = 0 := by omega
        subst hS
        simp (maxSteps := 2000000) (disch := omega) only [gw, Nat.reduceAdd, Nat.reduceMul, L.oneL, L.oneS, ← hl, nI_div4, nI_mul1, nI_mul2, nI_mul3, ← hq, e8', e5', q0, c4, ld, z0']
        exact ⟨rfl, f4.lh, f4.keep⟩
      · rw [if_neg z0] at hS
        have z0' : ¬ (r.2 : Int) = 0 := by omega
        by_cases z2 : r.2 = 12
        · exfalso; omega
        · rw [if_neg z2] at hS
          have z2' : ¬ (r.2 : Int) = 12 := by omega
          subst hS
          simp (maxSteps := 2000000) (disch := omega) only [gw, Nat.reduceAdd, Nat.reduceMul, L.oneL, L.oneS, ← hl, nI_div4, nI_mul1, nI_mul2, nI_mul3, ← hq, e8', e5', q0, c4, ld, z0', z2']
          exact ⟨rfl, f4.lh, f4.keep⟩
  · rw [if_neg e8] at hS
    have e8' : ¬ (8 : Int) ≤ (l : Int) := by omega
    simp (maxSteps := 2000000) (disch := omega) only [gw, Nat.reduceAdd, Nat.reduceMul, L.oneL, L.oneS, ← hl, nI_div4, nI_mul1, nI_mul2, nI_mul3, ← hq, e8']
    subst hS
    exact ⟨rfl, f0.lh, f0.keep⟩
end Go.AM

set_option linter.unusedVariables false
set_option linter.unusedSimpArgs false
set_option maxRecDepth 20000
namespace Go.AM
open Go.Sort
open Go.Proofs (breakPatterns_eq bpRest bp_step)
variable {P : Program} {env : Env} {α : Type} [Inhabited α]

theorem ofI64 {a : Nat} (ha : a < 18446744073709551616) : (BitVec.ofInt 64 (a : Int)).toNat = a := by
  rw [BitVec.ofInt_natCast, BitVec.toNat_ofNat]
  exact Nat.mod_eq_of_lt ha
theorem wrapU {a : Nat} (ha : a < 18446744073709551616) : IntKind.u64.wrap (a : Int) = (a : Int) := by
  simp [IntKind.wrap, IntKind.bits, IntKind.signed]
  omega
theorem andI_nat {a b : Nat} (ha : a < 18446744073709551616) (hb : b < 18446744073709551616) : andI .u64 (a : Int) (b : Int) = ((a &&& b : Nat) : Int) := by
  have h : a &&& b < 2 ^ 64 := Nat.and_lt_two_pow _ (by omega)
  show IntKind.u64.wrap ((BitVec.ofInt 64 (a : Int) &&& BitVec.ofInt 64 (b : Int)).toNat : Int) = _
  rw [BitVec.toNat_and, ofI64 ha, ofI64 hb, wrapU (by omega)]
theorem xorI_nat {a b : Nat} (ha : a < 18446744073709551616) (hb : b < 18446744073709551616) : xorI .u64 (a : Int) (b : Int) = ((a ^^^ b : Nat) : Int) := by
  have h : a ^^^ b < 2 ^ 64 := Nat.xor_lt_two_pow (by omega) (by omega)
  show IntKind.u64.wrap ((BitVec.ofInt 64 (a : Int) ^^^ BitVec.ofInt 64 (b : Int)).toNat : Int) = _
  rw [BitVec.toNat_xor, ofI64 ha, ofI64 hb, wrapU (by omega)]
theorem shlX13 {a : Nat} : shl? .u64 (a : Int) 13 = some (((a * 8192 % 18446744073709551616 : Nat) : Int)) := by
  simp [shl?, IntKind.wrap, IntKind.bits, IntKind.signed]
theorem shlX17 {a : Nat} : shl? .u64 (a : Int) 17 = some (((a * 131072 % 18446744073709551616 : Nat) : Int)) := by
  simp [shl?, IntKind.wrap, IntKind.bits, IntKind.signed]
theorem shrX7 {a : Nat} (ha : a < 18446744073709551616) : shr? .u64 (a : Int) 7 = some (((a / 128 : Nat) : Int)) := by
  simp [shr?, IntKind.wrap, IntKind.bits, IntKind.signed]
  exact Int.fdiv_eq_ediv_of_nonneg _ (by decide)
abbrev uV (n : Nat) : V := .i (.s (.int .u64 (n : Int)))

def c_sort_xorshift_Next : AFn := ⟨33, (.seq (.ops [(qS 2 (.mv (.const (.int .u64 0))))]) (.seq (.ops [(qS 3 (.mv (.tmp 0))), (qS 4 (.nilChk (.tmp 3))), (qS 5 (.load 1 false (.tmp 4))), (qS 6 (.mv (.tmp 0))), (qS 7 (.nilChk (.tmp 6))), (qS 8 (.load 1 false (.tmp 7))), (qS 9 (.pu (.n (.ar .shl)) [(.tmp 8), (.const (.int .u64 13))])), (qS 10 (.pu (.n (.ar .xor)) [(.tmp 5), (.tmp 9)])), (qS 11 (.nilChk (.tmp 3))), ⟨.none, (.store 1 (.tmp 11) (.tmp 10)), .none, [], .none⟩]) (.seq (.ops [(qS 12 (.mv (.tmp 0))), (qS 13 (.nilChk (.tmp 12))), (qS 14 (.load 1 false (.tmp 13))), (qS 15 (.mv (.tmp 0))), (qS 16 (.nilChk (.tmp 15))), (qS 17 (.load 1 false (.tmp 16))), (qS 18 (.pu (.n (.ar .shr)) [(.tmp 17), (.const (.int .u64 7))])), (qS 19 (.pu (.n (.ar .xor)) [(.tmp 14), (.tmp 18)])), (qS 20 (.nilChk (.tmp 12))), ⟨.none, (.store 1 (.tmp 20) (.tmp 19)), .none, [], .none⟩]) (.seq (.ops [(qS 21 (.mv (.tmp 0))), (qS 22 (.nilChk (.tmp 21))), (qS 23 (.load 1 false (.tmp 22))), (qS 24 (.mv (.tmp 0))), (qS 25 (.nilChk (.tmp 24))), (qS 26 (.load 1 false (.tmp 25))), (qS 27 (.pu (.n (.ar .shl)) [(.tmp 26), (.const (.int .u64 17))])), (qS 28 (.pu (.n (.ar .xor)) [(.tmp 23), (.tmp 27)])), (qS 29 (.nilChk (.tmp 21))), ⟨.none, (.store 1 (.tmp 29) (.tmp 28)), .none, [], .none⟩]) (.seq (.ops [(qS 30 (.mv (.tmp 0))), (qS 31 (.nilChk (.tmp 30))), (qS 32 (.load 1 false (.tmp 31))), (qS 2 (.mv (.tmp 32)))]) .ret))))), [(.tmp 2)]⟩

theorem W_Next {H : Heap} {C X : Nat} (hX : X < 18446744073709551616) (hC : H[C]? = some (.cells [uV X])) :
    R P env c_sort_xorshift_Next [.ptr C 1 0] H (fun v h' => v = uV (xorNextN X) ∧ h' = H.set C (.cells [uV (xorNextN X)])) := by
  refine R_of (by simp [c_sort_xorshift_Next]) ?_
  unfold c_sort_xorshift_Next
  have hlt : C < H.length := (List.getElem?_eq_some_iff.1 hC).1
  obtain ⟨a, hA⟩ : ∃ a : Nat, a = X ^^^ (X * 8192 % 18446744073709551616) := ⟨_, rfl⟩
  obtain ⟨b, hB⟩ : ∃ b : Nat, b = a ^^^ (a / 128) := ⟨_, rfl⟩
  obtain ⟨c, hc⟩ : ∃ c : Nat, c = b ^^^ (b * 131072 % 18446744073709551616) := ⟨_, rfl⟩
  have lA : a < 18446744073709551616 := by rw [hA]; exact Nat.xor_lt_two_pow (n := 64) (by omega) (by omega)
  have lB : b < 18446744073709551616 := by rw [hB]; exact Nat.xor_lt_two_pow (n := 64) (by omega) (by omega)
  have hv : xorNextN X = c := by unfold xorNextN; simp only []; rw [← hA, ← hB, ← hc]
  rw [hv]
  have x1 := xorI_nat (a := X) (b := X * 8192 % 18446744073709551616) hX (by omega)
  have x2 := xorI_nat (a := a) (b := a / 128) lA (by omega)
  have x3 := xorI_nat (a := b) (b := b * 131072 % 18446744073709551616) lB (by omega)
  rw [← hA] at x1
  rw [← hB] at x2
  rw [← hc] at x3
  have s7 := shrX7 lA
  have ld0 := ldN hC
  have e : ∀ x : V, (H.set C (.cells [x]))[C]? = some (.cells [x]) := fun x => List.getElem?_set_self hlt
  have ld : ∀ x : V, stepLoad 1 false (H.set C (.cells [x])) (.ptr C 1 0) = some x := fun x => ldN (e x)
  have st0 : ∀ y : V, y.one = true → stepStoreC 1 H [y] (.ptr C 1 0) = _ := fun y hy => stN hy hC
  have st : ∀ x y : V, y.one = true → stepStoreC 1 (H.set C (.cells [x])) [y] (.ptr C 1 0) = some (H.set C (.cells [y])) := fun x y hy => by
    rw [stN hy (e x), List.set_set]
  have st0' : ∀ n : Nat, stepStore 1 H (uV n) (.ptr C 1 0) = some (H.set C (.cells [uV n])) := fun n => st0 _ rfl
  have st' : ∀ (x : V) (n : Nat), stepStore 1 (H.set C (.cells [x])) (uV n) (.ptr C 1 0) = some (H.set C (.cells [uV n])) := fun x n => st x _ rfl
  simp (maxSteps := 2000000) (disch := omega) only [gw, Nat.reduceAdd, Nat.reduceMul, ld0, ld, st0', st', shlX13, shlX17, s7, x1, x2, x3]

/-- A walk's heap: the two functions, and a cell with a random number. -/
structure FrU (L : LS env α) (H : Heap) (B C : Nat) (h : Heap) (A : Array α) (R : Nat) : Prop where
  lh : L.Lh h A
  keep : KeepS L.n H h
  box : h[B]? = some (.cells [L.less, L.swap])
  cell : h[C]? = some (.cells [uV R])
  low : L.n ≤ B
  lowC : L.n ≤ C
  new : H.length ≤ C
  ne : B ≠ C

theorem FrU.start {L : LS env α} {H : Heap} {A : Array α} (hL : L.Lh H A) (R : Nat) : FrU L H H.length (H.length + 1) (H ++ [.cells [L.less, L.swap], .cells [uV R]]) A R where
  lh := L.same hL (by simp) (fun b hb => List.getElem?_append_left (Nat.lt_of_lt_of_le hb (L.low hL)))
  keep := KeepS.app _ _ _
  box := by simp
  cell := by rw [List.getElem?_append_right (by omega)]; simp
  low := L.low hL
  lowC := Nat.le_succ_of_le (L.low hL)
  new := Nat.le_succ _
  ne := by omega
theorem FrU.set {L : LS env α} {H h : Heap} {B C R : Nat} {A : Array α} (f : FrU L H B C h A R) (R' : Nat) : FrU L H B C (h.set C (.cells [uV R'])) A R' where
  lh := L.same f.lh (by simp) (fun x hx => List.getElem?_set_ne (by have := f.lowC; omega))
  keep := f.keep.set _ _ f.new
  box := by rw [List.getElem?_set_ne (fun e => f.ne e.symm)]; exact f.box
  cell := List.getElem?_set_self (List.getElem?_eq_some_iff.1 f.cell).1
  low := f.low
  lowC := f.lowC
  new := f.new
  ne := f.ne
theorem FrU.swapN {L : LS env α} {H h : Heap} {B C R : Nat} {A : Array α} (f : FrU L H B C h A R) (i j : Nat) (hi : i < L.sz) (hj : j < L.sz) : ∃ h', dynV env L.swap [.i (.s (.int .i64 (i : Int))), .i (.s (.int .i64 (j : Int)))] h = some (.tup [], h') ∧ FrU L H B C h' (swp A i j) R := by
  obtain ⟨h', h1, h2, h3⟩ := L.swapW f.lh i j hi hj
  exact ⟨h', h1, h2, f.keep.trans h3, (h3.at_ B f.low (List.getElem?_eq_some_iff.1 f.box).1).trans f.box, (h3.at_ C f.lowC (List.getElem?_eq_some_iff.1 f.cell).1).trans f.cell, f.low, f.lowC, f.new, f.ne⟩
theorem FrU.ldS {L : LS env α} {H h : Heap} {B C R : Nat} {A : Array α} (f : FrU L H B C h A R) : stepLoad 1 false h (.ptr B 2 1) = some L.swap := by
  have : getCells h B 2 = some [L.less, L.swap] := by unfold getCells; rw [f.box]; simp
  simp [stepLoad, this, rowV]

def c_sort_breakPatterns_func (f_sort_nextPowerOfTwo : Nat) (f_sort_xorshift_Next : Nat) : AFn := ⟨54, (.seq (.ops [(qS 3 (.box (.tmp 0)))]) (.seq (.ops [(qS 11 (.mv (.tmp 2))), (qS 12 (.mv (.tmp 1))), (qS 13 (.pu (.n (.ar .sub)) [(.tmp 11), (.tmp 12)])), (qS 6 (.mv (.tmp 13)))]) (.seq (.ops [(qS 14 (.mv (.tmp 6))), (qS 15 (.pu (.n (.ar .geq)) [(.tmp 14), (ic 8)]))]) (.cond (.tmp 15) (.seq (.ops [(qS 16 (.mv (.tmp 6))), (qS 17 (.pu (.n (.conv .u64)) [(.tmp 16)])), (qS 7 (.allocV [(0, false)] [(.int .u64 0)])), ⟨.none, (.storeV [(0, false)] 1 (.tmp 7) (.tmp 17)), .none, [], .none⟩]) (.seq (.ops [(qS 18 (.mv (.tmp 6))), (qS 19 (.call (2 * f_sort_nextPowerOfTwo) [(.tmp 18)])), (qS 8 (.mv (.tmp 19)))]) (.seq (.ops [(qS 20 (.mv (.tmp 1))), (qS 21 (.mv (.tmp 6))), (qS 22 (.pu (.n (.ar .quo)) [(.tmp 21), (ic 4)])), (qS 23 (.pu (.n (.ar .mul)) [(.tmp 22), (ic 2)])), (qS 24 (.pu (.n (.ar .add)) [(.tmp 20), (.tmp 23)])), (qS 25 (.pu (.n (.ar .sub)) [(.tmp 24), (ic 1)])), (qS 9 (.mv (.tmp 25)))]) (.block 0 (.loop (.seq (.seq (.ops [(qS 26 (.mv (.tmp 9))), (qS 27 (.mv (.tmp 1))), (qS 28 (.mv (.tmp 6))), (qS 29 (.pu (.n (.ar .quo)) [(.tmp 28), (ic 4)])), (qS 30 (.pu (.n (.ar .mul)) [(.tmp 29), (ic 2)])), (qS 31 (.pu (.n (.ar .add)) [(.tmp 27), (.tmp 30)])), (qS 32 (.pu (.n (.ar .add)) [(.tmp 31), (ic 1)])), (qS 33 (.pu (.n (.ar .leq)) [(.tmp 26), (.tmp 32)]))]) (.cond (.tmp 33) .skip (.exit 0))) (.seq (.block 1 (.seq (.ops [(qS 36 (.call (2 * f_sort_xorshift_Next + 1) [(.tmp 7)])), (qS 37 (.mv (.tmp 8))), (qS 38 (.pu (.n (.ar .sub)) [(.tmp 37), (.const (.int .u64 1))])), (qS 39 (.pu (.n (.ar .and)) [(.tmp 36), (.tmp 38)])), (qS 40 (.pu (.n (.conv .i64)) [(.tmp 39)])), (qS 10 (.mv (.tmp 40)))]) (.seq (.seq (.ops [(qS 41 (.mv (.tmp 10))), (qS 42 (.mv (.tmp 6))), (qS 43 (.pu (.n (.ar .geq)) [(.tmp 41), (.tmp 42)]))]) (.cond (.tmp 43) (.ops [(qS 44 (.mv (.tmp 10))), (qS 45 (.mv (.tmp 6))), (qS 46 (.pu (.n (.ar .sub)) [(.tmp 44), (.tmp 45)])), (qS 10 (.mv (.tmp 46)))]) .skip)) (.ops [(qS 47 (.fieldA 1 (.tmp 3))), (qS 48 (.load 1 false (.tmp 47))), (qS 49 (.mv (.tmp 9))), (qS 50 (.mv (.tmp 1))), (qS 51 (.mv (.tmp 10))), (qS 52 (.pu (.n (.ar .add)) [(.tmp 50), (.tmp 51)])), (qS 53 (.dyn (.tmp 48) [(.tmp 49), (.tmp 52)]))])))) (.ops [(qS 34 (.mv (.tmp 9))), (qS 35 (.pu (.n (.ar .add)) [(.tmp 34), (ic 1)])), (qS 9 (.mv (.tmp 35)))])))))))) .skip)))), []⟩

theorem W_breakPatterns {L : LS env α} {fN fX : Nat} (kn : ∀ (h : Heap) (l : Nat), l < 4611686018427387904 → env (2 * fN) none [nV l] h = some (uV (1 <<< bitsLen l), h))
    (kx : ∀ (h : Heap) (C X : Nat), X < 18446744073709551616 → h[C]? = some (.cells [uV X]) → env (2 * fX + 1) none [.ptr C 1 0] h = some (uV (xorNextN X), h.set C (.cells [uV (xorNextN X)])))
    {H : Heap} {A : Array α} (hL : L.Lh H A) (a b : Nat) (hab : a ≤ b) (hb : b ≤ L.sz) :
    R P env (c_sort_breakPatterns_func fN fX) [.agg [L.less, L.swap], nV a, nV b] H (PostS L H (breakPatterns A a b) (.tup [])) := by
  have big := L.big
  refine R_of (by simp [c_sort_breakPatterns_func]) ?_
  unfold c_sort_breakPatterns_func
  obtain ⟨l, hl⟩ : ∃ l, l = b - a := ⟨_, rfl⟩
  obtain ⟨S, hS⟩ : ∃ S, S = breakPatterns A a b := ⟨_, rfl⟩
  rw [← hS]
  by_cases h8 : 8 ≤ l
  · have h8' : (8 : Int) ≤ (l : Int) := by omega
    obtain rfl : b = a + l := by omega
    rw [breakPatterns_eq A a l h8] at hS
    obtain ⟨M, hM⟩ : ∃ M : Nat, M = 1 <<< bitsLen l := ⟨_, rfl⟩
    have hM1 : 1 ≤ M := by rw [hM, Nat.one_shiftLeft]; exact Nat.two_pow_pos _
    have hM2 : M ≤ 2 * l := by rw [hM, Nat.one_shiftLeft]; exact two_pow_bitsLen_le (by omega)
    have kn' := fun h => kn h l (by omega)
    rw [← hM] at hS
    simp only [← hM] at kn'
    clear hM kn
    have f0 := FrU.start hL l
    have st0 : stepStoreC 1 (H ++ [.cells [L.less, L.swap], .cells [.i (.s (.int .u64 0))]]) [uV l] (.ptr (H.length + 1) 1 0) = some (H ++ [.cells [L.less, L.swap], .cells [uV l]]) := by
      rw [stN (x := .i (.s (.int .u64 0))) rfl (by rw [List.getElem?_append_right (by omega)]; simp), List.set_append_right _ _ (by omega)]
      simp
    have wl := wrapU (a := l) (by omega)
    have wM := wrapU (a := M - 1) (by omega)
    obtain ⟨q, hq⟩ : ∃ q, q = l / 4 := ⟨_, rfl⟩
    rw [← hq] at hS
    have hRl : (UInt64.ofNat l).toNat = l := by simp; omega
    simp (maxSteps := 2000000) (disch := omega) only [gw, Nat.reduceAdd, Nat.reduceMul, L.oneL, L.oneS, ← hl, h8', wl, st0, kn', nI_div4, nI_mul2, ← hq]
    generalize H ++ [.cells [L.less, L.swap], .cells [uV l]] = h0 at f0 ⊢
    generalize H.length + 1 = C at f0 ⊢
    generalize H.length = B at f0 ⊢
    refine W_loopK (fun n t h => ∃ k r A', n = 3 - k ∧ k ≤ 3 ∧ t 1 = nV a ∧ t 3 = .ptr B 2 0 ∧ t 6 = nV l ∧ t 7 = .ptr C 1 0 ∧ t 8 = uV M ∧ t 9 = nV (a + q * 2 - 1 + k) ∧ FrU L H B C h A' r.toNat ∧ S = bpRest a l M (a + q * 2 - 1) (3 - k) k (r, A')) 3 ⟨0, UInt64.ofNat l, A, rfl, by omega, rfl, rfl, rfl, rfl, rfl, rfl, by rw [hRl]; exact f0, hS⟩ ?_
    clear f0 hS hL st0
    rintro K n t h hn hx ⟨k, r, A', rfl, hk, g1, g3, g6, g7, g8, g9, f, hS⟩
    by_cases hk3 : k < 3
    · have hle : a + q * 2 - 1 + k ≤ a + q * 2 + 1 := by omega
      have hR := xorNext_toNat r
      have lR := xorNextN_lt r.toNat r.toNat_lt
      have kx' := kx h C r.toNat r.toNat_lt f.cell
      have f1 := f.set (xorNextN r.toNat)
      obtain ⟨R', hR'⟩ : ∃ R', R' = xorNextN r.toNat := ⟨_, rfl⟩
      rw [← hR'] at hR lR kx' f1
      obtain ⟨O, hO⟩ : ∃ O, O = R' &&& (M - 1) := ⟨_, rfl⟩
      have lO : O ≤ M - 1 := by rw [hO]; exact Nat.and_le_right
      have eA : andI .u64 (R' : Int) ((M - 1 : Nat) : Int) = (O : Int) := by rw [andI_nat lR (by omega), hO]
      generalize h.set C (.cells [uV R']) = h1 at kx' f1
      by_cases hO2 : l ≤ O
      · rw [bp_step a l M _ k r A' (O - l) hk3 (by rw [hR, ← hO, if_pos hO2])] at hS
        obtain ⟨h2, hs, f2⟩ := f1.swapN (a + q * 2 - 1 + k) (a + (O - l)) (by omega) (by omega)
        rw [← hR] at f2
        simp (maxSteps := 2000000) (disch := omega) only [gw, Nat.reduceAdd, Nat.reduceMul, g1, g3, g6, g7, g8, g9, nI_div4, nI_mul2, ← hq, hle, kx', wM, eA, hO2, f1.ldS, hs]
        exact hn _ _ _ (by omega) ⟨k + 1, _, _, rfl, by omega, g1, g3, g6, g7, g8, rfl, f2, hS⟩
      · rw [bp_step a l M _ k r A' O hk3 (by rw [hR, ← hO, if_neg hO2])] at hS
        obtain ⟨h2, hs, f2⟩ := f1.swapN (a + q * 2 - 1 + k) (a + O) (by omega) (by omega)
        rw [← hR] at f2
        simp (maxSteps := 2000000) (disch := omega) only [gw, Nat.reduceAdd, Nat.reduceMul, g1, g3, g6, g7, g8, g9, nI_div4, nI_mul2, ← hq, hle, kx', wM, eA, hO2, f1.ldS, hs]
        exact hn _ _ _ (by omega) ⟨k + 1, _, _, rfl, by omega, g1, g3, g6, g7, g8, rfl, f2, hS⟩
    · have hle : ¬ a + q * 2 - 1 + k ≤ a + q * 2 + 1 := by omega
      obtain rfl : k = 3 := by omega
      simp (maxSteps := 2000000) (disch := omega) only [gw, Nat.reduceAdd, Nat.reduceMul, g1, g3, g6, g7, g8, g9, nI_div4, nI_mul2, ← hq, hle]
      refine hx _ _ _ (by simp) ?_
      subst hS
      simp (maxSteps := 2000000) (disch := omega) only [gw, Nat.reduceAdd, Nat.reduceMul]
      exact ⟨rfl, f.lh, f.keep⟩
  · have h8' : ¬ (8 : Int) ≤ (l : Int) := by omega
    have f0 := Fr.start hL
    have hv : breakPatterns A a b = A := by unfold breakPatterns; simp only []; rw [← hl, if_neg (by omega)]
    rw [hv] at hS
    subst hS
    simp (maxSteps := 2000000) (disch := omega) only [gw, Nat.reduceAdd, Nat.reduceMul, L.oneL, L.oneS, ← hl, h8']
    exact ⟨rfl, f0.lh, f0.keep⟩
end Go.AM

set_option linter.unusedVariables false
set_option linter.unusedSimpArgs false
set_option maxRecDepth 20000
namespace Go.AM
open Go.Sort
variable {P : Program} {env : Env} {α : Type} [Inhabited α]

def c_sort_pdqsort_func (f_sort_insertionSort_func : Nat) (f_sort_heapSort_func : Nat) (f_sort_breakPatterns_func : Nat) (f_sort_choosePivot_func : Nat) (f_sort_reverseRange_func : Nat) (f_sort_partialInsertionSort_func : Nat) (f_sort_partitionEqual_func : Nat) (f_sort_partition_func : Nat) (f_sort_pdqsort_func : Nat) : AFn := ⟨130, (.seq (.ops [(qS 4 (.box (.tmp 0)))]) (.seq (.ops [(qS 8 (.mv (.const (.bool true))))]) (.seq (.ops [(qS 9 (.mv (.const (.bool true))))]) (.block 0 (.loop (.block 1 (.seq (.ops [(qS 19 (.mv (.tmp 2))), (qS 20 (.mv (.tmp 1))), (qS 21 (.pu (.n (.ar .sub)) [(.tmp 19), (.tmp 20)])), (qS 10 (.mv (.tmp 21)))]) (.seq (.seq (.ops [(qS 22 (.mv (.tmp 10))), (qS 23 (.pu (.n (.ar .leq)) [(.tmp 22), (ic 12)]))]) (.cond (.tmp 23) (.seq (.ops [(qS 24 (.load 2 true (.tmp 4))), (qS 25 (.mv (.tmp 1))), (qS 26 (.mv (.tmp 2))), (qS 27 (.call (2 * f_sort_insertionSort_func + 1) [(.tmp 24), (.tmp 25), (.tmp 26)]))]) .ret) .skip)) (.seq (.seq (.ops [(qS 28 (.mv (.tmp 3))), (qS 29 (.pu (.n (.ar .eql)) [(.tmp 28), (ic 0)]))]) (.cond (.tmp 29) (.seq (.ops [(qS 30 (.load 2 true (.tmp 4))), (qS 31 (.mv (.tmp 1))), (qS 32 (.mv (.tmp 2))), (qS 33 (.call (2 * f_sort_heapSort_func + 1) [(.tmp 30), (.tmp 31), (.tmp 32)]))]) .ret) .skip)) (.seq (.seq (.ops [(qS 34 (.mv (.tmp 8))), (qS 35 (.pu (.n (.un .not)) [(.tmp 34)]))]) (.cond (.tmp 35) (.seq (.ops [(qS 36 (.load 2 true (.tmp 4))), (qS 37 (.mv (.tmp 1))), (qS 38 (.mv (.tmp 2))), (qS 39 (.call (2 * f_sort_breakPatterns_func + 1) [(.tmp 36), (.tmp 37), (.tmp 38)]))]) (.ops [(qS 40 (.mv (.tmp 3))), (qS 41 (.pu (.n (.ar .sub)) [(.tmp 40), (ic 1)])), (qS 3 (.mv (.tmp 41)))])) .skip)) (.seq (.ops [(qS 43 (.load 2 true (.tmp 4))), (qS 44 (.mv (.tmp 1))), (qS 45 (.mv (.tmp 2))), (qS 46 (.call (2 * f_sort_choosePivot_func + 1) [(.tmp 43), (.tmp 44), (.tmp 45)])), (qS 42 (.mv (.tmp 46))), (qS 47 (.extract 0 (.tmp 42))), (qS 48 (.extract 1 (.tmp 42))), (qS 11 (.mv (.tmp 47))), (qS 12 (.mv (.tmp 48)))]) (.seq (.seq (.ops [(qS 49 (.mv (.tmp 12))), (qS 50 (.pu (.n (.ar .eql)) [(.tmp 49), (ic 2)]))]) (.cond (.tmp 50) (.seq (.ops [(qS 51 (.load 2 true (.tmp 4))), (qS 52 (.mv (.tmp 1))), (qS 53 (.mv (.tmp 2))), (qS 54 (.call (2 * f_sort_reverseRange_func + 1) [(.tmp 51), (.tmp 52), (.tmp 53)]))]) (.seq (.ops [(qS 55 (.mv (.tmp 2))), (qS 56 (.pu (.n (.ar .sub)) [(.tmp 55), (ic 1)])), (qS 57 (.mv (.tmp 11))), (qS 58 (.mv (.tmp 1))), (qS 59 (.pu (.n (.ar .sub)) [(.tmp 57), (.tmp 58)])), (qS 60 (.pu (.n (.ar .sub)) [(.tmp 56), (.tmp 59)])), (qS 11 (.mv (.tmp 60)))]) (.ops [(qS 12 (.mv (ic 1)))]))) .skip)) (.seq (.seq (.ops [(qS 61 (.mv (.tmp 8))), (qS 62 (.mv (.tmp 61))), ⟨(.some 63), (.mv (.tmp 9)), (.some (62, true)), [], .none⟩, (qS 64 (.pick (.tmp 62) (.tmp 63) (.const (.bool false)))), (qS 65 (.mv (.tmp 64))), ⟨(.some 66), (.mv (.tmp 12)), (.some (65, true)), [], .none⟩, ⟨(.some 67), (.pu (.n (.ar .eql)) [(.tmp 66), (ic 1)]), (.some (65, true)), [], .none⟩, (qS 68 (.pick (.tmp 65) (.tmp 67) (.const (.bool false))))]) (.cond (.tmp 68) (.seq (.ops [(qS 69 (.load 2 true (.tmp 4))), (qS 70 (.mv (.tmp 1))), (qS 71 (.mv (.tmp 2))), (qS 72 (.call (2 * f_sort_partialInsertionSort_func + 1) [(.tmp 69), (.tmp 70), (.tmp 71)]))]) (.cond (.tmp 72) .ret .skip)) .skip)) (.seq (.seq (.ops [(qS 73 (.mv (.tmp 1))), (qS 74 (.pu (.n (.ar .gtr)) [(.tmp 73), (ic 0)])), (qS 75 (.mv (.tmp 74))), ⟨(.some 76), (.fieldA 0 (.tmp 4)), (.some (75, true)), [], .none⟩, ⟨(.some 77), (.load 1 false (.tmp 76)), (.some (75, true)), [], .none⟩, ⟨(.some 78), (.mv (.tmp 1)), (.some (75, true)), [], .none⟩, ⟨(.some 79), (.pu (.n (.ar .sub)) [(.tmp 78), (ic 1)]), (.some (75, true)), [], .none⟩, ⟨(.some 80), (.mv (.tmp 11)), (.some (75, true)), [], .none⟩, ⟨(.some 81), (.dyn (.tmp 77) [(.tmp 79), (.tmp 80)]), (.some (75, true)), [], .none⟩, ⟨(.some 82), (.pu (.n (.un .not)) [(.tmp 81)]), (.some (75, true)), [], .none⟩, (qS 83 (.pick (.tmp 75) (.tmp 82) (.const (.bool false))))]) (.cond (.tmp 83) (.seq (.ops [(qS 84 (.load 2 true (.tmp 4))), (qS 85 (.mv (.tmp 1))), (qS 86 (.mv (.tmp 2))), (qS 87 (.mv (.tmp 11))), (qS 88 (.call (2 * f_sort_partitionEqual_func + 1) [(.tmp 84), (.tmp 85), (.tmp 86), (.tmp 87)])), (qS 13 (.mv (.tmp 88)))]) (.seq (.ops [(qS 89 (.mv (.tmp 13))), (qS 1 (.mv (.tmp 89)))]) (.exit 1))) .skip)) (.seq (.ops [(qS 91 (.load 2 true (.tmp 4))), (qS 92 (.mv (.tmp 1))), (qS 93 (.mv (.tmp 2))), (qS 94 (.mv (.tmp 11))), (qS 95 (.call (2 * f_sort_partition_func + 1) [(.tmp 91), (.tmp 92), (.tmp 93), (.tmp 94)])), (qS 90 (.mv (.tmp 95))), (qS 96 (.extract 0 (.tmp 90))), (qS 97 (.extract 1 (.tmp 90))), (qS 14 (.mv (.tmp 96))), (qS 15 (.mv (.tmp 97)))]) (.seq (.ops [(qS 98 (.mv (.tmp 15))), (qS 9 (.mv (.tmp 98)))]) (.seq (.ops [(qS 99 (.mv (.tmp 14))), (qS 100 (.mv (.tmp 1))), (qS 101 (.pu (.n (.ar .sub)) [(.tmp 99), (.tmp 100)])), (qS 102 (.mv (.tmp 2))), (qS 103 (.mv (.tmp 14))), (qS 104 (.pu (.n (.ar .sub)) [(.tmp 102), (.tmp 103)])), (qS 16 (.mv (.tmp 101))), (qS 17 (.mv (.tmp 104)))]) (.seq (.ops [(qS 105 (.mv (.tmp 10))), (qS 106 (.pu (.n (.ar .quo)) [(.tmp 105), (ic 8)])), (qS 18 (.mv (.tmp 106)))]) (.seq (.ops [(qS 107 (.mv (.tmp 16))), (qS 108 (.mv (.tmp 17))), (qS 109 (.pu (.n (.ar .lss)) [(.tmp 107), (.tmp 108)]))]) (.cond (.tmp 109) (.seq (.ops [(qS 110 (.mv (.tmp 16))), (qS 111 (.mv (.tmp 18))), (qS 112 (.pu (.n (.ar .geq)) [(.tmp 110), (.tmp 111)])), (qS 8 (.mv (.tmp 112)))]) (.seq (.ops [(qS 113 (.load 2 true (.tmp 4))), (qS 114 (.mv (.tmp 1))), (qS 115 (.mv (.tmp 14))), (qS 116 (.mv (.tmp 3))), (qS 117 (.call (2 * f_sort_pdqsort_func + 1) [(.tmp 113), (.tmp 114), (.tmp 115), (.tmp 116)]))]) (.ops [(qS 118 (.mv (.tmp 14))), (qS 119 (.pu (.n (.ar .add)) [(.tmp 118), (ic 1)])), (qS 1 (.mv (.tmp 119)))]))) (.seq (.ops [(qS 120 (.mv (.tmp 17))), (qS 121 (.mv (.tmp 18))), (qS 122 (.pu (.n (.ar .geq)) [(.tmp 120), (.tmp 121)])), (qS 8 (.mv (.tmp 122)))]) (.seq (.ops [(qS 123 (.load 2 true (.tmp 4))), (qS 124 (.mv (.tmp 14))), (qS 125 (.pu (.n (.ar .add)) [(.tmp 124), (ic 1)])), (qS 126 (.mv (.tmp 2))), (qS 127 (.mv (.tmp 3))), (qS 128 (.call (2 * f_sort_pdqsort_func + 1) [(.tmp 123), (.tmp 125), (.tmp 126), (.tmp 127)]))]) (.ops [(qS 129 (.mv (.tmp 14))), (qS 2 (.mv (.tmp 129)))]))))))))))))))))))))))), []⟩

def k_pdq4 (fI fH fB fC fR fP fE fT fS : Nat) : ACode := (.seq (.seq (.ops [(qS 73 (.mv (.tmp 1))), (qS 74 (.pu (.n (.ar .gtr)) [(.tmp 73), (ic 0)])), (qS 75 (.mv (.tmp 74))), ⟨(.some 76), (.fieldA 0 (.tmp 4)), (.some (75, true)), [], .none⟩, ⟨(.some 77), (.load 1 false (.tmp 76)), (.some (75, true)), [], .none⟩, ⟨(.some 78), (.mv (.tmp 1)), (.some (75, true)), [], .none⟩, ⟨(.some 79), (.pu (.n (.ar .sub)) [(.tmp 78), (ic 1)]), (.some (75, true)), [], .none⟩, ⟨(.some 80), (.mv (.tmp 11)), (.some (75, true)), [], .none⟩, ⟨(.some 81), (.dyn (.tmp 77) [(.tmp 79), (.tmp 80)]), (.some (75, true)), [], .none⟩, ⟨(.some 82), (.pu (.n (.un .not)) [(.tmp 81)]), (.some (75, true)), [], .none⟩, (qS 83 (.pick (.tmp 75) (.tmp 82) (.const (.bool false))))]) (.cond (.tmp 83) (.seq (.ops [(qS 84 (.load 2 true (.tmp 4))), (qS 85 (.mv (.tmp 1))), (qS 86 (.mv (.tmp 2))), (qS 87 (.mv (.tmp 11))), (qS 88 (.call (2 * fE + 1) [(.tmp 84), (.tmp 85), (.tmp 86), (.tmp 87)])), (qS 13 (.mv (.tmp 88)))]) (.seq (.ops [(qS 89 (.mv (.tmp 13))), (qS 1 (.mv (.tmp 89)))]) (.exit 1))) .skip)) (.seq (.ops [(qS 91 (.load 2 true (.tmp 4))), (qS 92 (.mv (.tmp 1))), (qS 93 (.mv (.tmp 2))), (qS 94 (.mv (.tmp 11))), (qS 95 (.call (2 * fT + 1) [(.tmp 91), (.tmp 92), (.tmp 93), (.tmp 94)])), (qS 90 (.mv (.tmp 95))), (qS 96 (.extract 0 (.tmp 90))), (qS 97 (.extract 1 (.tmp 90))), (qS 14 (.mv (.tmp 96))), (qS 15 (.mv (.tmp 97)))]) (.seq (.ops [(qS 98 (.mv (.tmp 15))), (qS 9 (.mv (.tmp 98)))]) (.seq (.ops [(qS 99 (.mv (.tmp 14))), (qS 100 (.mv (.tmp 1))), (qS 101 (.pu (.n (.ar .sub)) [(.tmp 99), (.tmp 100)])), (qS 102 (.mv (.tmp 2))), (qS 103 (.mv (.tmp 14))), (qS 104 (.pu (.n (.ar .sub)) [(.tmp 102), (.tmp 103)])), (qS 16 (.mv (.tmp 101))), (qS 17 (.mv (.tmp 104)))]) (.seq (.ops [(qS 105 (.mv (.tmp 10))), (qS 106 (.pu (.n (.ar .quo)) [(.tmp 105), (ic 8)])), (qS 18 (.mv (.tmp 106)))]) (.seq (.ops [(qS 107 (.mv (.tmp 16))), (qS 108 (.mv (.tmp 17))), (qS 109 (.pu (.n (.ar .lss)) [(.tmp 107), (.tmp 108)]))]) (.cond (.tmp 109) (.seq (.ops [(qS 110 (.mv (.tmp 16))), (qS 111 (.mv (.tmp 18))), (qS 112 (.pu (.n (.ar .geq)) [(.tmp 110), (.tmp 111)])), (qS 8 (.mv (.tmp 112)))]) (.seq (.ops [(qS 113 (.load 2 true (.tmp 4))), (qS 114 (.mv (.tmp 1))), (qS 115 (.mv (.tmp 14))), (qS 116 (.mv (.tmp 3))), (qS 117 (.call (2 * fS + 1) [(.tmp 113), (.tmp 114), (.tmp 115), (.tmp 116)]))]) (.ops [(qS 118 (.mv (.tmp 14))), (qS 119 (.pu (.n (.ar .add)) [(.tmp 118), (ic 1)])), (qS 1 (.mv (.tmp 119)))]))) (.seq (.ops [(qS 120 (.mv (.tmp 17))), (qS 121 (.mv (.tmp 18))), (qS 122 (.pu (.n (.ar .geq)) [(.tmp 120), (.tmp 121)])), (qS 8 (.mv (.tmp 122)))]) (.seq (.ops [(qS 123 (.load 2 true (.tmp 4))), (qS 124 (.mv (.tmp 14))), (qS 125 (.pu (.n (.ar .add)) [(.tmp 124), (ic 1)])), (qS 126 (.mv (.tmp 2))), (qS 127 (.mv (.tmp 3))), (qS 128 (.call (2 * fS + 1) [(.tmp 123), (.tmp 125), (.tmp 126), (.tmp 127)]))]) (.ops [(qS 129 (.mv (.tmp 14))), (qS 2 (.mv (.tmp 129)))]))))))))))
def k_pdq3 (fI fH fB fC fR fP fE fT fS : Nat) : ACode := (.seq (.seq (.ops [(qS 61 (.mv (.tmp 8))), (qS 62 (.mv (.tmp 61))), ⟨(.some 63), (.mv (.tmp 9)), (.some (62, true)), [], .none⟩, (qS 64 (.pick (.tmp 62) (.tmp 63) (.const (.bool false)))), (qS 65 (.mv (.tmp 64))), ⟨(.some 66), (.mv (.tmp 12)), (.some (65, true)), [], .none⟩, ⟨(.some 67), (.pu (.n (.ar .eql)) [(.tmp 66), (ic 1)]), (.some (65, true)), [], .none⟩, (qS 68 (.pick (.tmp 65) (.tmp 67) (.const (.bool false))))]) (.cond (.tmp 68) (.seq (.ops [(qS 69 (.load 2 true (.tmp 4))), (qS 70 (.mv (.tmp 1))), (qS 71 (.mv (.tmp 2))), (qS 72 (.call (2 * fP + 1) [(.tmp 69), (.tmp 70), (.tmp 71)]))]) (.cond (.tmp 72) .ret .skip)) .skip)) (k_pdq4 fI fH fB fC fR fP fE fT fS))
def k_pdq2 (fI fH fB fC fR fP fE fT fS : Nat) : ACode := (.seq (.ops [(qS 43 (.load 2 true (.tmp 4))), (qS 44 (.mv (.tmp 1))), (qS 45 (.mv (.tmp 2))), (qS 46 (.call (2 * fC + 1) [(.tmp 43), (.tmp 44), (.tmp 45)])), (qS 42 (.mv (.tmp 46))), (qS 47 (.extract 0 (.tmp 42))), (qS 48 (.extract 1 (.tmp 42))), (qS 11 (.mv (.tmp 47))), (qS 12 (.mv (.tmp 48)))]) (.seq (.seq (.ops [(qS 49 (.mv (.tmp 12))), (qS 50 (.pu (.n (.ar .eql)) [(.tmp 49), (ic 2)]))]) (.cond (.tmp 50) (.seq (.ops [(qS 51 (.load 2 true (.tmp 4))), (qS 52 (.mv (.tmp 1))), (qS 53 (.mv (.tmp 2))), (qS 54 (.call (2 * fR + 1) [(.tmp 51), (.tmp 52), (.tmp 53)]))]) (.seq (.ops [(qS 55 (.mv (.tmp 2))), (qS 56 (.pu (.n (.ar .sub)) [(.tmp 55), (ic 1)])), (qS 57 (.mv (.tmp 11))), (qS 58 (.mv (.tmp 1))), (qS 59 (.pu (.n (.ar .sub)) [(.tmp 57), (.tmp 58)])), (qS 60 (.pu (.n (.ar .sub)) [(.tmp 56), (.tmp 59)])), (qS 11 (.mv (.tmp 60)))]) (.ops [(qS 12 (.mv (ic 1)))]))) .skip)) (k_pdq3 fI fH fB fC fR fP fE fT fS)))
def k_pdq1 (fI fH fB fC fR fP fE fT fS : Nat) : ACode := (.seq (.seq (.ops [(qS 34 (.mv (.tmp 8))), (qS 35 (.pu (.n (.un .not)) [(.tmp 34)]))]) (.cond (.tmp 35) (.seq (.ops [(qS 36 (.load 2 true (.tmp 4))), (qS 37 (.mv (.tmp 1))), (qS 38 (.mv (.tmp 2))), (qS 39 (.call (2 * fB + 1) [(.tmp 36), (.tmp 37), (.tmp 38)]))]) (.ops [(qS 40 (.mv (.tmp 3))), (qS 41 (.pu (.n (.ar .sub)) [(.tmp 40), (ic 1)])), (qS 3 (.mv (.tmp 41)))])) .skip)) (k_pdq2 fI fH fB fC fR fP fE fT fS))
theorem c_pdq (fI fH fB fC fR fP fE fT fS : Nat) : c_sort_pdqsort_func fI fH fB fC fR fP fE fT fS = ⟨130, (.seq (.ops [(qS 4 (.box (.tmp 0)))]) (.seq (.ops [(qS 8 (.mv (.const (.bool true))))]) (.seq (.ops [(qS 9 (.mv (.const (.bool true))))]) (.block 0 (.loop (.block 1 (.seq (.ops [(qS 19 (.mv (.tmp 2))), (qS 20 (.mv (.tmp 1))), (qS 21 (.pu (.n (.ar .sub)) [(.tmp 19), (.tmp 20)])), (qS 10 (.mv (.tmp 21)))]) (.seq (.seq (.ops [(qS 22 (.mv (.tmp 10))), (qS 23 (.pu (.n (.ar .leq)) [(.tmp 22), (ic 12)]))]) (.cond (.tmp 23) (.seq (.ops [(qS 24 (.load 2 true (.tmp 4))), (qS 25 (.mv (.tmp 1))), (qS 26 (.mv (.tmp 2))), (qS 27 (.call (2 * fI + 1) [(.tmp 24), (.tmp 25), (.tmp 26)]))]) .ret) .skip)) (.seq (.seq (.ops [(qS 28 (.mv (.tmp 3))), (qS 29 (.pu (.n (.ar .eql)) [(.tmp 28), (ic 0)]))]) (.cond (.tmp 29) (.seq (.ops [(qS 30 (.load 2 true (.tmp 4))), (qS 31 (.mv (.tmp 1))), (qS 32 (.mv (.tmp 2))), (qS 33 (.call (2 * fH + 1) [(.tmp 30), (.tmp 31), (.tmp 32)]))]) .ret) .skip)) (k_pdq1 fI fH fB fC fR fP fE fT fS)))))))))), []⟩ := rfl

/-! ### The round, in stages -/
section
variable (lt : α → α → Bool)
def pdqR4 (A : Array α) (a b lim p : Nat) (wb wp : Bool) : Array α :=
  if (decide (a > 0) && !lt A[a - 1]! A[p]!) = true then
    (if a < (partitionEqual lt A a b p).1 ∧ (partitionEqual lt A a b p).1 ≤ b then pdq lt (partitionEqual lt A a b p).2 (partitionEqual lt A a b p).1 b lim wb wp else (partitionEqual lt A a b p).2)
  else
    (if a ≤ (partition lt A a b p).1 ∧ (partition lt A a b p).1 < b then
      (if (partition lt A a b p).1 - a < b - (partition lt A a b p).1 then
        pdq lt (pdq lt (partition lt A a b p).2.2 a (partition lt A a b p).1 lim true true) ((partition lt A a b p).1 + 1) b lim (decide ((partition lt A a b p).1 - a ≥ (b - a) / 8)) (partition lt A a b p).2.1
      else
        pdq lt (pdq lt (partition lt A a b p).2.2 ((partition lt A a b p).1 + 1) b lim true true) a (partition lt A a b p).1 lim (decide (b - (partition lt A a b p).1 ≥ (b - a) / 8)) (partition lt A a b p).2.1)
    else (partition lt A a b p).2.2)
def pdqR3' (pi : Array α × Bool) (a b lim p : Nat) (wb wp : Bool) : Array α := if pi.2 = true then pi.1 else pdqR4 lt pi.1 a b lim p wb wp
def pdqR3 (A : Array α) (a b lim p : Nat) (hint : Hint) (wb wp : Bool) : Array α :=
  pdqR3' lt (if (wb && wp && decide (hint = .increasing)) = true then partialInsertionSort lt A a b else (A, false)) a b lim p wb wp
def pdqR2' (c : Nat × Hint) (A : Array α) (a b lim : Nat) (wb wp : Bool) : Array α :=
  pdqR3 lt (if c.2 = .decreasing then reverseRange A a b else A) a b lim (if c.2 = .decreasing then (b - 1) - (c.1 - a) else c.1) (if c.2 = .decreasing then .increasing else c.2) wb wp
def pdqR2 (A : Array α) (a b lim : Nat) (wb wp : Bool) : Array α := pdqR2' lt (choosePivot lt A a b) A a b lim wb wp
def pdqR1 (A : Array α) (a b lim : Nat) (wb wp : Bool) : Array α := pdqR2 lt (if (!wb) = true then breakPatterns A a b else A) a b (if (!wb) = true then lim - 1 else lim) wb wp
theorem pdq_R {d : Array α} {a b limit : Nat} {wb wp : Bool} : pdq lt d a b limit wb wp = if b - a ≤ 12 then insertionSort lt d a b else if limit = 0 then heapSort lt d a b else pdqR1 lt d a b limit wb wp := by
  rw [pdq]
  rfl
end

/-- What the functions that it calls do. -/
structure PdqK (L : LS env α) (fI fH fB fC fR fP fE fT fS N : Nat) : Prop where
  ki : ∀ {H : Heap} {A : Array α}, L.Lh H A → ∀ a b : Nat, a ≤ L.sz → b ≤ L.sz → CS L (2 * fI + 1) [.agg [L.less, L.swap], nV a, nV b] H (insertionSort L.lt A a b) (.tup [])
  kh : ∀ {H : Heap} {A : Array α}, L.Lh H A → ∀ a b : Nat, a + 2 ≤ b → b ≤ L.sz → CS L (2 * fH + 1) [.agg [L.less, L.swap], nV a, nV b] H (heapSort L.lt A a b) (.tup [])
  kb : ∀ {H : Heap} {A : Array α}, L.Lh H A → ∀ a b : Nat, a ≤ b → b ≤ L.sz → CS L (2 * fB + 1) [.agg [L.less, L.swap], nV a, nV b] H (breakPatterns A a b) (.tup [])
  kc : ∀ {H : Heap} {A : Array α}, L.Lh H A → ∀ a b : Nat, a < b → b ≤ L.sz → CS L (2 * fC + 1) [.agg [L.less, L.swap], nV a, nV b] H A (.tup [nV (choosePivot L.lt A a b).1, nV (hintN (choosePivot L.lt A a b).2)])
  kr : ∀ {H : Heap} {A : Array α}, L.Lh H A → ∀ a b : Nat, a < b → b ≤ L.sz → CS L (2 * fR + 1) [.agg [L.less, L.swap], nV a, nV b] H (reverseRange A a b) (.tup [])
  kp : ∀ {H : Heap} {A : Array α}, L.Lh H A → ∀ a b : Nat, a < b → b ≤ L.sz → CS L (2 * fP + 1) [.agg [L.less, L.swap], nV a, nV b] H (partialInsertionSort L.lt A a b).1 (.i (.s (.bool (partialInsertionSort L.lt A a b).2)))
  ke : ∀ {H : Heap} {A : Array α}, L.Lh H A → ∀ a b p : Nat, a < b → b ≤ L.sz → p < b → CS L (2 * fE + 1) [.agg [L.less, L.swap], nV a, nV b, nV p] H (partitionEqual L.lt A a b p).2 (nV (partitionEqual L.lt A a b p).1)
  kt : ∀ {H : Heap} {A : Array α}, L.Lh H A → ∀ a b p : Nat, a < b → b ≤ L.sz → p < b → CS L (2 * fT + 1) [.agg [L.less, L.swap], nV a, nV b, nV p] H (partition L.lt A a b p).2.2 (.tup [nV (partition L.lt A a b p).1, .i (.s (.bool (partition L.lt A a b p).2.1))])
  ks : ∀ {H : Heap} {A : Array α}, L.Lh H A → ∀ a b lim : Nat, a ≤ b → b ≤ L.sz → b - a < N → lim < 4611686018427387904 → CS L (2 * fS + 1) [.agg [L.less, L.swap], nV a, nV b, nV lim] H (pdq L.lt A a b lim true true) (.tup [])

abbrev bV (b : Bool) : V := .i (.s (.bool b))

theorem partEq_range {lt : α → α → Bool} {A : Array α} {a b p : Nat} (hab : a < b) (hb : b ≤ A.size) : a < (partitionEqual lt A a b p).1 ∧ (partitionEqual lt A a b p).1 ≤ b := by
  unfold partitionEqual
  have := partEqLoop_spec lt a b _ (a + 1) (b - 1) (swp A a p) (Nat.le_refl _) (Nat.lt_succ_self a) (by omega) (by omega) (by rw [size_swp]; exact hb) (fun t h1 h2 => by omega) (fun t h1 h2 => by omega)
  exact ⟨this.1, this.2.1⟩
theorem part_range {lt : α → α → Bool} {A : Array α} {a b p : Nat} (hab : a < b) (hb : b ≤ A.size) : a ≤ (partition lt A a b p).1 ∧ (partition lt A a b p).1 < b := by
  rw [partition_fst]
  have := partLoop_spec lt a b _ (a + 1) (b - 1) (swp A a p) (Nat.le_refl _) (Nat.lt_succ_self a) (by omega) (by omega) (by rw [size_swp]; exact hb) (fun t h1 h2 => by omega) (fun t h1 h2 => by omega)
  exact ⟨this.1, this.2.1⟩

theorem W_pdq4 {L : LS env α} {fI fH fB fC fR fP fE fT fS N : Nat} (k : PdqK L fI fH fB fC fR fP fE fT fS N) {Q : Post} {H h : Heap} {B : Nat} {A S : Array α} {t : Nat → V} (f : Fr L H B h A) {a b lim p : Nat} {wb wp : Bool}
    (g1 : t 1 = nV a) (g2 : t 2 = nV b) (g3 : t 3 = nV lim) (g4 : t 4 = .ptr B 2 0) (g8 : t 8 = bV wb) (g9 : t 9 = bV wp) (g10 : t 10 = nV (b - a)) (g11 : t 11 = nV p)
    (hab : a < b) (hb : b ≤ L.sz) (hp : p < b) (hN : b - a ≤ N) (hlim : lim < 4611686018427387904) (hS : S = pdqR4 L.lt A a b lim p wb wp)
    (hQ : ∀ t h a' b' wb' wp' A', t 1 = nV a' → t 2 = nV b' → t 3 = nV lim → t 4 = .ptr B 2 0 → t 8 = bV wb' → t 9 = bV wp' → a' ≤ b' → b' ≤ L.sz → b' - a' < b - a → Fr L H B h A' → S = pdq L.lt A' a' b' lim wb' wp' → Q .normal t h ∧ Q (.exit 1) t h) :
    @W P env ⟨k_pdq4 fI fH fB fC fR fP fE fT fS⟩ t h ⟨Q⟩ := by
  have big := L.big
  have hsz := L.size f.lh
  unfold k_pdq4
  unfold pdqR4 at hS
  have goE : (decide (a > 0) && !L.lt A[a - 1]! A[p]!) = true → @W P env ⟨k_pdq4 fI fH fB fC fR fP fE fT fS⟩ t h ⟨Q⟩ := by
    intro hc
    rw [if_pos hc, if_pos (partEq_range hab (by omega))] at hS
    simp only [gt_iff_lt, Bool.and_eq_true, decide_eq_true_eq, Bool.not_eq_true'] at hc
    have r := partEq_range (lt := L.lt) (A := A) (p := p) hab (by omega)
    have ha0 : (0 : Int) < (a : Int) := by omega
    have hl := f.lessN (a - 1) p (by omega) (by omega)
    rw [hc.2] at hl
    obtain ⟨h', c1, l1, k1⟩ := k.ke f.lh a b p hab hb hp
    have f1 := f.next l1 k1
    generalize partitionEqual L.lt A a b p = m at *
    unfold k_pdq4
    simp (maxSteps := 2000000) (disch := omega) only [gw, Nat.reduceAdd, Nat.reduceMul, g1, g2, g3, g4, g11, ha0, f.ldL, f.ldB, hl, c1]
    exact And.right (hQ _ _ m.1 b wb wp _ rfl g2 g3 g4 g8 g9 r.2 hb (by omega) f1 hS)
  by_cases hc : (decide (a > 0) && !L.lt A[a - 1]! A[p]!) = true
  · have := goE hc
    unfold k_pdq4 at this
    exact this
  · clear goE
    rw [if_neg hc, if_pos (part_range hab (by omega))] at hS
    have r := part_range (lt := L.lt) (A := A) (p := p) hab (by omega)
    obtain ⟨h', c1, l1, k1⟩ := k.kt f.lh a b p hab hb hp
    have f1 := f.next l1 k1
    obtain ⟨m, hm⟩ : ∃ m, m = partition L.lt A a b p := ⟨_, rfl⟩
    rw [← hm] at hS r c1 f1
    obtain ⟨d, hd⟩ : ∃ d, d = (b - a) / 8 := ⟨_, rfl⟩
    rw [← hd] at hS
    by_cases hlr : m.1 - a < b - m.1
    · rw [if_pos hlr] at hS
      obtain ⟨h2, c2, l2, k2⟩ := k.ks f1.lh a m.1 lim (by omega) (by omega) (by omega) hlim
      have f2 := f1.next l2 k2
      by_cases ha : 0 < a
      · have ha0 : (0 : Int) < (a : Int) := by omega
        have hl := f.lessN (a - 1) p (by omega) (by omega)
        have hc2 : L.lt A[a - 1]! A[p]! = true := by
          cases e : L.lt A[a - 1]! A[p]! with
          | true => rfl
          | false => exact absurd (by simp [ha, e]) hc
        rw [hc2] at hl
        simp (maxSteps := 2000000) (disch := omega) only [gw, Nat.reduceAdd, Nat.reduceMul, g1, g2, g3, g4, g10, g11, ha0, f.ldL, f.ldB, f1.ldB, hl, c1, nI_div8, ← hd, hlr, c2]
        exact And.left (hQ _ _ (m.1 + 1) b _ _ _ rfl g2 g3 g4 rfl rfl (by omega) hb (by omega) f2 hS)
      · have ha0 : ¬ (0 : Int) < (a : Int) := by omega
        simp (maxSteps := 2000000) (disch := omega) only [gw, Nat.reduceAdd, Nat.reduceMul, g1, g2, g3, g4, g10, g11, ha0, f.ldL, f.ldB, f1.ldB, c1, nI_div8, ← hd, hlr, c2]
        exact And.left (hQ _ _ (m.1 + 1) b _ _ _ rfl g2 g3 g4 rfl rfl (by omega) hb (by omega) f2 hS)
    · rw [if_neg hlr] at hS
      obtain ⟨h2, c2, l2, k2⟩ := k.ks f1.lh (m.1 + 1) b lim (by omega) (by omega) (by omega) hlim
      have f2 := f1.next l2 k2
      by_cases ha : 0 < a
      · have ha0 : (0 : Int) < (a : Int) := by omega
        have hl := f.lessN (a - 1) p (by omega) (by omega)
        have hc2 : L.lt A[a - 1]! A[p]! = true := by
          cases e : L.lt A[a - 1]! A[p]! with
          | true => rfl
          | false => exact absurd (by simp [ha, e]) hc
        rw [hc2] at hl
        simp (maxSteps := 2000000) (disch := omega) only [gw, Nat.reduceAdd, Nat.reduceMul, g1, g2, g3, g4, g10, g11, ha0, f.ldL, f.ldB, f1.ldB, hl, c1, nI_div8, ← hd, hlr, c2]
        exact And.left (hQ _ _ a m.1 _ _ _ g1 rfl g3 g4 rfl rfl (by omega) (by omega) (by omega) f2 hS)
      · have ha0 : ¬ (0 : Int) < (a : Int) := by omega
        simp (maxSteps := 2000000) (disch := omega) only [gw, Nat.reduceAdd, Nat.reduceMul, g1, g2, g3, g4, g10, g11, ha0, f.ldL, f.ldB, f1.ldB, c1, nI_div8, ← hd, hlr, c2]
        exact And.left (hQ _ _ a m.1 _ _ _ g1 rfl g3 g4 rfl rfl (by omega) (by omega) (by omega) f2 hS)

theorem W_pdq3 {L : LS env α} {fI fH fB fC fR fP fE fT fS N : Nat} (k : PdqK L fI fH fB fC fR fP fE fT fS N) {Q : Post} {H h : Heap} {B : Nat} {A S : Array α} {t : Nat → V} (f : Fr L H B h A) {a b lim p : Nat} {hint : Hint} {wb wp : Bool}
    (g1 : t 1 = nV a) (g2 : t 2 = nV b) (g3 : t 3 = nV lim) (g4 : t 4 = .ptr B 2 0) (g8 : t 8 = bV wb) (g9 : t 9 = bV wp) (g10 : t 10 = nV (b - a)) (g11 : t 11 = nV p) (g12 : t 12 = nV (hintN hint))
    (hab : a < b) (hb : b ≤ L.sz) (hp : p < b) (hN : b - a ≤ N) (hlim : lim < 4611686018427387904) (hS : S = pdqR3 L.lt A a b lim p hint wb wp)
    (hR : ∀ t h, Fr L H B h S → Q .ret t h)
    (hQ : ∀ t h a' b' wb' wp' A', t 1 = nV a' → t 2 = nV b' → t 3 = nV lim → t 4 = .ptr B 2 0 → t 8 = bV wb' → t 9 = bV wp' → a' ≤ b' → b' ≤ L.sz → b' - a' < b - a → Fr L H B h A' → S = pdq L.lt A' a' b' lim wb' wp' → Q .normal t h ∧ Q (.exit 1) t h) :
    @W P env ⟨k_pdq3 fI fH fB fC fR fP fE fT fS⟩ t h ⟨Q⟩ := by
  have big := L.big
  unfold k_pdq3
  unfold pdqR3 at hS
  by_cases hc : (wb && wp && decide (hint = .increasing)) = true
  · rw [if_pos hc] at hS
    obtain ⟨h', c1, l1, k1⟩ := k.kp f.lh a b hab hb
    have f1 := f.next l1 k1
    generalize partialInsertionSort L.lt A a b = pi at *
    simp only [Bool.and_eq_true, decide_eq_true_eq] at hc
    obtain ⟨⟨rfl, rfl⟩, rfl⟩ := hc
    have e1 : hintN .increasing = 1 := rfl
    rw [e1] at g12
    have e2 : ((1 : Nat) : Int) = 1 := rfl
    unfold pdqR3' at hS
    by_cases hpi : pi.2 = true
    · rw [if_pos hpi] at hS
      rw [hpi] at c1
      subst hS
      simp (maxSteps := 2000000) (disch := omega) only [gw, Nat.reduceAdd, Nat.reduceMul, g1, g2, g3, g4, g8, g9, g12, e2, f.ldB, c1]
      exact hR _ _ f1
    · rw [if_neg hpi] at hS
      rw [Bool.not_eq_true] at hpi
      rw [hpi] at c1
      simp (maxSteps := 2000000) (disch := omega) only [gw, Nat.reduceAdd, Nat.reduceMul, g1, g2, g3, g4, g8, g9, g12, e2, f.ldB, c1]
      exact W_pdq4 k f1 g1 g2 g3 g4 g8 g9 g10 g11 hab hb hp hN hlim hS (fun t h a' b' wb' wp' A' q1 q2 q3 q4 q8 q9 q10 q11 q12 q13 q14 => hQ t h a' b' wb' wp' A' q1 q2 q3 q4 q8 q9 q10 q11 q12 q13 q14)
  · rw [if_neg hc] at hS
    unfold pdqR3' at hS
    rw [if_neg Bool.false_ne_true] at hS
    have d : ∀ t', t' 1 = nV a → t' 2 = nV b → t' 3 = nV lim → t' 4 = .ptr B 2 0 → t' 8 = bV wb → t' 9 = bV wp → t' 10 = nV (b - a) → t' 11 = nV p → @W P env ⟨k_pdq4 fI fH fB fC fR fP fE fT fS⟩ t' h ⟨Q⟩ := fun t' q1 q2 q3 q4 q8 q9 q10 q11 =>
      W_pdq4 k f q1 q2 q3 q4 q8 q9 q10 q11 hab hb hp hN hlim hS hQ
    cases wb with
    | false =>
      simp (maxSteps := 2000000) (disch := omega) only [gw, Nat.reduceAdd, Nat.reduceMul, g1, g2, g3, g4, g8, g9, g12]
      exact d _ g1 g2 g3 g4 g8 g9 g10 g11
    | true =>
      cases wp with
      | false =>
        simp (maxSteps := 2000000) (disch := omega) only [gw, Nat.reduceAdd, Nat.reduceMul, g1, g2, g3, g4, g8, g9, g12]
        exact d _ g1 g2 g3 g4 g8 g9 g10 g11
      | true =>
        have hh : ¬ (hintN hint : Int) = 1 := by
          cases hint with
          | increasing => simp at hc
          | unknown => simp [hintN]
          | decreasing => simp [hintN]
        simp (maxSteps := 2000000) (disch := omega) only [gw, Nat.reduceAdd, Nat.reduceMul, g1, g2, g3, g4, g8, g9, g12, hh]
        exact d _ g1 g2 g3 g4 g8 g9 g10 g11

theorem W_pdq2 {L : LS env α} {fI fH fB fC fR fP fE fT fS N : Nat} (k : PdqK L fI fH fB fC fR fP fE fT fS N) {Q : Post} {H h : Heap} {B : Nat} {A S : Array α} {t : Nat → V} (f : Fr L H B h A) {a b lim : Nat} {wb wp : Bool}
    (g1 : t 1 = nV a) (g2 : t 2 = nV b) (g3 : t 3 = nV lim) (g4 : t 4 = .ptr B 2 0) (g8 : t 8 = bV wb) (g9 : t 9 = bV wp) (g10 : t 10 = nV (b - a))
    (hab : a < b) (hb : b ≤ L.sz) (hN : b - a ≤ N) (hlim : lim < 4611686018427387904) (hS : S = pdqR2 L.lt A a b lim wb wp)
    (hR : ∀ t h, Fr L H B h S → Q .ret t h)
    (hQ : ∀ t h a' b' wb' wp' A', t 1 = nV a' → t 2 = nV b' → t 3 = nV lim → t 4 = .ptr B 2 0 → t 8 = bV wb' → t 9 = bV wp' → a' ≤ b' → b' ≤ L.sz → b' - a' < b - a → Fr L H B h A' → S = pdq L.lt A' a' b' lim wb' wp' → Q .normal t h ∧ Q (.exit 1) t h) :
    @W P env ⟨k_pdq2 fI fH fB fC fR fP fE fT fS⟩ t h ⟨Q⟩ := by
  have big := L.big
  unfold k_pdq2
  unfold pdqR2 at hS
  have cr : a ≤ (choosePivot L.lt A a b).1 ∧ (choosePivot L.lt A a b).1 < b := choosePivot_holds L.lt A a b hab
  obtain ⟨h', c1, l1, k1⟩ := k.kc f.lh a b hab hb
  have f1 := f.next l1 k1
  generalize choosePivot L.lt A a b = c at *
  unfold pdqR2' at hS
  by_cases hc : c.2 = .decreasing
  · rw [if_pos hc, if_pos hc, if_pos hc] at hS
    rw [hc] at c1
    have e1 : hintN .decreasing = 2 := rfl
    rw [e1] at c1
    have e2 : ((2 : Nat) : Int) = 2 := rfl
    obtain ⟨h2, c2, l2, k2⟩ := k.kr f1.lh a b hab hb
    have f2 := f1.next l2 k2
    simp (maxSteps := 2000000) (disch := omega) only [gw, Nat.reduceAdd, Nat.reduceMul, g1, g2, g3, g4, g8, g9, f.ldB, c1, e2, f1.ldB, c2]
    exact W_pdq3 k f2 (p := b - 1 - (c.1 - a)) (hint := .increasing) g1 g2 g3 g4 g8 g9 g10 rfl rfl hab hb (by omega) hN hlim hS hR hQ
  · rw [if_neg hc, if_neg hc, if_neg hc] at hS
    have hh : ¬ (hintN c.2 : Int) = 2 := by
      cases e : c.2 with
      | increasing => simp [hintN]
      | unknown => simp [hintN]
      | decreasing => exact absurd e hc
    simp (maxSteps := 2000000) (disch := omega) only [gw, Nat.reduceAdd, Nat.reduceMul, g1, g2, g3, g4, g8, g9, f.ldB, c1, hh]
    exact W_pdq3 k f1 (p := c.1) (hint := c.2) g1 g2 g3 g4 g8 g9 g10 rfl rfl hab hb cr.2 hN hlim hS hR hQ

theorem W_pdq1 {L : LS env α} {fI fH fB fC fR fP fE fT fS N : Nat} (k : PdqK L fI fH fB fC fR fP fE fT fS N) {Q : Post} {H h : Heap} {B : Nat} {A S : Array α} {t : Nat → V} (f : Fr L H B h A) {a b lim : Nat} {wb wp : Bool}
    (g1 : t 1 = nV a) (g2 : t 2 = nV b) (g3 : t 3 = nV lim) (g4 : t 4 = .ptr B 2 0) (g8 : t 8 = bV wb) (g9 : t 9 = bV wp) (g10 : t 10 = nV (b - a))
    (hab : a < b) (hb : b ≤ L.sz) (hN : b - a ≤ N) (hlim : lim < 4611686018427387904) (h0 : 0 < lim) (hS : S = pdqR1 L.lt A a b lim wb wp)
    (hR : ∀ t h, Fr L H B h S → Q .ret t h)
    (hQ : ∀ t h a' b' lim' wb' wp' A', lim' < 4611686018427387904 → t 1 = nV a' → t 2 = nV b' → t 3 = nV lim' → t 4 = .ptr B 2 0 → t 8 = bV wb' → t 9 = bV wp' → a' ≤ b' → b' ≤ L.sz → b' - a' < b - a → Fr L H B h A' → S = pdq L.lt A' a' b' lim' wb' wp' → Q .normal t h ∧ Q (.exit 1) t h) :
    @W P env ⟨k_pdq1 fI fH fB fC fR fP fE fT fS⟩ t h ⟨Q⟩ := by
  have big := L.big
  unfold k_pdq1
  unfold pdqR1 at hS
  cases wb with
  | true =>
    rw [if_neg (by simp), if_neg (by simp)] at hS
    simp (maxSteps := 2000000) (disch := omega) only [gw, Nat.reduceAdd, Nat.reduceMul, g1, g2, g3, g4, g8, g9]
    exact W_pdq2 k f g1 g2 g3 g4 g8 g9 g10 hab hb hN hlim hS hR (fun t h a' b' wb' wp' A' q => hQ t h a' b' lim wb' wp' A' hlim q)
  | false =>
    rw [if_pos (by simp), if_pos (by simp)] at hS
    obtain ⟨h', c1, l1, k1⟩ := k.kb f.lh a b (Nat.le_of_lt hab) hb
    have f1 := f.next l1 k1
    simp (maxSteps := 2000000) (disch := omega) only [gw, Nat.reduceAdd, Nat.reduceMul, g1, g2, g3, g4, g8, g9, f.ldB, c1]
    exact W_pdq2 k f1 (lim := lim - 1) g1 g2 rfl g4 g8 g9 g10 hab hb hN (by omega) hS hR (fun t h a' b' wb' wp' A' q => hQ t h a' b' (lim - 1) wb' wp' A' (by omega) q)

theorem W_pdqsort {L : LS env α} {fI fH fB fC fR fP fE fT fS N : Nat} (k : PdqK L fI fH fB fC fR fP fE fT fS N) {H : Heap} {A : Array α} (hL : L.Lh H A) (a b lim : Nat) (hab : a ≤ b) (hb : b ≤ L.sz) (hN : b - a ≤ N) (hlim : lim < 4611686018427387904) :
    R P env (c_sort_pdqsort_func fI fH fB fC fR fP fE fT fS) [.agg [L.less, L.swap], nV a, nV b, nV lim] H (PostS L H (pdq L.lt A a b lim true true) (.tup [])) := by
  have big := L.big
  rw [c_pdq]
  refine R_of (by simp) ?_
  have f0 := Fr.start hL
  simp (maxSteps := 2000000) (disch := omega) only [gw, Nat.reduceAdd, Nat.reduceMul, L.oneL, L.oneS]
  generalize H ++ [.cells [L.less, L.swap]] = h0 at f0 ⊢
  generalize H.length = B at f0 ⊢
  obtain ⟨S, hS⟩ : ∃ S, S = pdq L.lt A a b lim true true := ⟨_, rfl⟩
  rw [← hS]
  refine W_loopK (fun n t h => ∃ a b lim wb wp A', n = b - a ∧ lim < 4611686018427387904 ∧ t 1 = nV a ∧ t 2 = nV b ∧ t 3 = nV lim ∧ t 4 = .ptr B 2 0 ∧ t 8 = bV wb ∧ t 9 = bV wp ∧ a ≤ b ∧ b ≤ L.sz ∧ b - a ≤ N ∧ Fr L H B h A' ∧ S = pdq L.lt A' a b lim wb wp) (b - a) ⟨a, b, lim, true, true, A, rfl, hlim, rfl, rfl, rfl, rfl, rfl, rfl, hab, hb, hN, f0, hS⟩ ?_
  clear f0 hS hL hab hb hN hlim
  clear h0 lim a b
  rintro K n t h hn hx ⟨a, b, lim, wb, wp, A', rfl, hlim, g1, g2, g3, g4, g8, g9, hab, hb, hN, f, hS⟩
  rw [pdq_R] at hS
  have hret : ∀ t' h', Fr L H B h' S → K .ret t' h' := by
    intro t' h' f2
    refine hx _ _ _ (by simp) ?_
    simp (maxSteps := 2000000) (disch := omega) only [gw, Nat.reduceAdd, Nat.reduceMul]
    exact ⟨rfl, f2.lh, f2.keep⟩
  by_cases h12 : b - a ≤ 12
  · rw [if_pos h12] at hS
    have h12' : ((b - a : Nat) : Int) ≤ 12 := by omega
    obtain ⟨h', c1, l1, k1⟩ := k.ki f.lh a b (by omega) hb
    have f1 := f.next l1 k1
    simp (maxSteps := 2000000) (disch := omega) only [gw, Nat.reduceAdd, Nat.reduceMul, g1, g2, g3, g4, h12', f.ldB, c1]
    exact hret _ _ (by rw [hS]; exact f1)
  · rw [if_neg h12] at hS
    have h12' : ¬ ((b - a : Nat) : Int) ≤ 12 := by omega
    by_cases h0 : lim = 0
    · rw [if_pos h0] at hS
      have h0' : (lim : Int) = 0 := by omega
      obtain ⟨h', c1, l1, k1⟩ := k.kh f.lh a b (by omega) hb
      have f1 := f.next l1 k1
      simp (maxSteps := 2000000) (disch := omega) only [gw, Nat.reduceAdd, Nat.reduceMul, g1, g2, g3, g4, h12', h0', f.ldB, c1]
      exact hret _ _ (by rw [hS]; exact f1)
    · rw [if_neg h0] at hS
      have h0' : ¬ (lim : Int) = 0 := by omega
      simp (maxSteps := 2000000) (disch := omega) only [gw, Nat.reduceAdd, Nat.reduceMul, g1, g2, g3, g4, h12', h0']
      refine W_pdq1 k f g1 g2 g3 g4 g8 g9 rfl (by omega) hb hN hlim (by omega) hS ?_ ?_
      · intro t h f2
        simp (maxSteps := 2000000) (disch := omega) only [gw, Nat.reduceAdd, Nat.reduceMul]
        exact hret _ _ f2
      · intro t h a' b' lim' wb' wp' A2 hl q1 q2 q3 q4 q8 q9 q10 q11 q12 q13 q14
        have e := hn (b' - a') t h q12 ⟨a', b', lim', wb', wp', A2, rfl, hl, q1, q2, q3, q4, q8, q9, q10, q11, by omega, q13, q14⟩
        constructor
        · simp (maxSteps := 2000000) (disch := omega) only [gw, Nat.reduceAdd, Nat.reduceMul]
          exact e
        · simp (maxSteps := 2000000) (disch := omega) only [gw, Nat.reduceAdd, Nat.reduceMul]
          exact e
end Go.AM

set_option linter.unusedVariables false
set_option linter.unusedSimpArgs false
set_option maxRecDepth 20000
namespace Go.AM
open Go.Sort

abbrev sV (v : Value) : V := .i (.s v)

def rowAt (z i : Nat) (vs : List Value) : List Value := (vs.drop (i * z)).take z
def swapVs (z : Nat) (vs : List Value) (i j : Nat) : Array Value := setMany (setMany vs.toArray (i * z) (rowAt z j vs)) (j * z) (rowAt z i vs)

open Classical in
/-- Two elements change places, in a row of scalar structs of the function's own. -/
noncomputable def swapFn (z : Nat) (hd : Value) : Fun := fun _ args H => match args with
  | [.i (.s (.int .i64 i)), .i (.s (.int .i64 j)), .hsl b g 0 z' true len, .kv u] =>
      if u = hd ∧ z' = z ∧ 0 < z ∧ g = len * z ∧ 0 ≤ i ∧ i < len ∧ 0 ≤ j ∧ j < len then
        (getCells H b g).bind fun cs => (cs.mapM scal).bind fun vs => if vs.all plain = true then some (.tup [], H.set b (.cells ((swapVs z vs i.toNat j.toNat).toList.map sV))) else none
      else none
  | _ => none

theorem scals_rv {w : World} {base : Nat} {M : Nat → Prop} {H : Heap} {G : List Nat} : ∀ {cs : List V} {vs xs : List Value}, cs.mapM scal = some vs → RVL w base M H G cs xs → xs = vs ∧ cs = vs.map sV
  | [], vs, xs, h, hr => by cases h; cases hr; exact ⟨rfl, rfl⟩
  | c :: cs, vs, xs, h, hr => by
    rw [List.mapM_cons] at h
    obtain ⟨v, h1, h⟩ := Option.bind_eq_some_iff.1 h
    obtain ⟨l, h2, h⟩ := Option.bind_eq_some_iff.1 h
    cases h
    unfold scal at h1
    split at h1
    · cases h1
      cases hr with
      | cons a b =>
        obtain ⟨e1, e2⟩ := scals_rv h2 b
        subst e1
        subst e2
        cases a with
        | i hi => cases hi; exact ⟨rfl, rfl⟩
    · cases h1
theorem rv_scals {w : World} {base : Nat} {M : Nat → Prop} {H : Heap} {G : List Nat} : ∀ (xs : List Value), xs.all plain = true → RVL w base M H G (xs.map sV) xs
  | [], _ => .nil
  | x :: xs, h => by
    simp only [List.all_cons, Bool.and_eq_true] at h
    exact .cons (.i (.s h.1)) (rv_scals xs h.2)

theorem take_putId (cur : Array Value) (F : Array Value) (h : F.size ≤ cur.size) : (putCells id 0 F cur).toList.take F.size = F.toList := by
  apply List.ext_getElem?
  intro j
  by_cases hj : j < F.size
  · rw [List.getElem?_take_of_lt hj, Array.getElem?_toList]
    simp [putCells, hj, show j < cur.size by omega]
  · rw [List.getElem?_take, if_neg hj]
    simp; omega

theorem holdsId {w : World} {g : Nat} {cur : Array Value} {e : TypeId} {F : List Value} (hb : w.heap[g]? = some (.cells cur e (0, 0))) (ht : cur.toList.take F.length = F) : Holds id w g 0 F.toArray := by
  intro j hj
  have hj' : j < F.length := by simpa using hj
  refine ⟨?_, by simp [World.frozen?, hb]⟩
  have h1 : (cur.toList.take F.length)[j]? = F[j]? := by rw [ht]
  rw [List.getElem?_take_of_lt hj', Array.getElem?_toList] at h1
  simp [World.cell?, hb, h1, hj']

theorem mem_setMany {p : Value → Prop} : ∀ (vs : List Value) (s : Nat) (F : Array Value), (∀ x, x ∈ F → p x) → (∀ x, x ∈ vs → p x) → ∀ x, x ∈ setMany F s vs → p x
  | [], s, F, hF, _, x, hx => hF x hx
  | v :: r, s, F, hF, hv, x, hx => by
    rw [setMany] at hx
    refine mem_setMany r (s + 1) _ ?_ (fun y hy => hv y (List.mem_cons_of_mem _ hy)) x hx
    intro y hy
    rcases Array.mem_or_eq_of_mem_setIfInBounds hy with h | h
    · exact hF y h
    · rw [h]; exact hv v (by simp)

theorem swapVs_size {z i j : Nat} {vs : List Value} : (swapVs z vs i j).size = vs.length := by
  unfold swapVs
  rw [size_setMany, size_setMany]
  simp
theorem rowAt_mem {z i : Nat} {vs : List Value} {x : Value} (h : x ∈ rowAt z i vs) : x ∈ vs := List.mem_of_mem_drop (List.mem_of_mem_take h)
theorem swapVs_all {z i j : Nat} {vs : List Value} (h : vs.all plain = true) : (swapVs z vs i j).toList.all plain = true := by
  rw [List.all_eq_true] at h ⊢
  intro x hx
  have hx : x ∈ swapVs z vs i j := by simpa using hx
  unfold swapVs at hx
  refine mem_setMany (p := fun x => plain x = true) _ _ _ ?_ (fun y hy => h y (rowAt_mem hy)) x hx
  refine mem_setMany (p := fun x => plain x = true) _ _ _ ?_ (fun y hy => h y (rowAt_mem hy))
  intro y hy
  exact h y (by simpa using hy)

theorem rv_hslz {w : World} {base : Nat} {M : Nat → Prop} {H : Heap} {G : List Nat} {b g z len : Nat} {ag : Bool} {x : Value} (h : RV w base M H G (.hsl b g 0 z ag len) x) :
    (∃ a cap, x = .slice (some a) len cap ∧ H[b]? ≠ some .virt ∧ ∀ cs, cellsAt H b g = some cs → HslAt w (G.getD b 0) g 0 z len cap a) ∨ (x = .slice none 0 0 ∧ len = 0) := by
  cases h with
  | hsl _ hn _ _ hat => exact .inl ⟨_, _, rfl, hn, hat⟩
  | hnil _ _ => exact .inr ⟨rfl, rfl⟩

theorem plain_one' {v : Value} (h : plain v = true) : v.oneCell' = true := by cases v <;> simp_all [plain, Value.oneCell']

theorem args4 {w : World} {base : Nat} {M : Nat → Prop} {H : Heap} {G : List Nat} {i j : Int} {y : V} {u : Value} {xs : List Value} (h : RVL w base M H G [.i (.s (.int .i64 i)), .i (.s (.int .i64 j)), y, .kv u] xs) :
    ∃ x, xs = [.int .i64 i, .int .i64 j, x, u] ∧ RV w base M H G y x := by
  cases h with
  | cons a h =>
    cases h with
    | cons b h =>
      cases h with
      | cons c h =>
        cases h with
        | cons d h =>
          cases h
          cases a with
          | i a =>
            cases a
            cases b with
            | i b =>
              cases b
              cases d
              exact ⟨_, rfl, c⟩

theorem swapFn_ok {P : Program} {f : FuncId} {z : Nat} {e : TypeId} {ie : TypeInfo} (gS : Bool) (hx : ∀ args W, (callFunc f args).run P W = ((Extern.ReflectliteSwapper.swap gS args).run P W).andThen fun v w' => .ok (.value v) w')
    (hie : P.info? e = some ie) (hs : ie.size = z) (hagg : ∀ w, (isAgg e).run P w = .ok true w) : FunOK P f (swapFn z (typeHandle P e)) := by
  intro slot args H v H' hg
  refine .inr ?_
  unfold swapFn at hg
  split at hg
  case h_2 => cases hg
  rename_i i j b g z' len u
  split at hg
  case isFalse => cases hg
  rename_i hc
  obtain ⟨rfl, rfl, hz, hgl, hi0, hi, hj0, hj⟩ := hc
  subst hs
  obtain ⟨cs, hcs, hg⟩ := Option.bind_eq_some_iff.1 hg
  obtain ⟨vs, hvs, hg⟩ := Option.bind_eq_some_iff.1 hg
  split at hg
  case isFalse => cases hg
  rename_i hpl
  simp only [Option.some.injEq, Prod.mk.injEq] at hg
  obtain ⟨rfl, rfl⟩ := hg
  obtain ⟨i, rfl⟩ : ∃ n : Nat, i = (n : Int) := ⟨i.toNat, by omega⟩
  obtain ⟨j, rfl⟩ : ∃ n : Nat, j = (n : Int) := ⟨j.toNat, by omega⟩
  replace hi : i < len := by omega
  replace hj : j < len := by omega
  simp only [Int.toNat_natCast]
  intro base X w G xs hS hl
  obtain ⟨x, hxs, hxv⟩ := args4 hl
  obtain rfl : xs = #[.int .i64 i, .int .i64 j, x, typeHandle P e] := by apply Array.ext'; exact hxs
  clear hxs hl
  rcases rv_hslz hxv with ⟨a, cap, rfl, hn, hat⟩ | ⟨rfl, h0⟩
  case inr => omega
  replace hcs := getCells_not hcs hn
  obtain ⟨arr, ty, g1, e1, e2, e3, e4, e5, e6⟩ := hS.at hcs
  have hA := (hat cs hcs).1 (.inl (by omega))
  subst hA
  clear hat hxv
  generalize G.getD b 0 = k0 at *
  obtain ⟨q1, q2⟩ := scals_rv hvs e4
  have hlen : cs.length = vs.length := by rw [q2]; simp
  have hvl : vs.length = len * ie.size := by omega
  have hH : Holds id w (k0) 0 vs.toArray := holdsId e1 (by rw [← hlen]; exact q1)
  have le : ∀ k, k < len → k * ie.size + ie.size ≤ vs.length := fun k hk => by
    have := Nat.mul_le_mul_right ie.size (show k + 1 ≤ len from hk)
    rw [Nat.add_mul, Nat.one_mul] at this
    omega
  have lenR : ∀ k, k < len → (rowAt ie.size k vs).length = ie.size := fun k hk => by
    have := le k hk
    unfold rowAt
    rw [List.length_take, List.length_drop]
    omega
  have oneR : ∀ k, ∀ v ∈ rowAt ie.size k vs, v.oneCell' = true := fun k v hv => plain_one' (List.all_eq_true.1 hpl v (rowAt_mem hv))
  have cR : ∀ r, r < len → ∀ k v, (rowAt ie.size r vs)[k]? = some v → w.cell? ⟨k0, 0 + r * ie.size + k, none⟩ = some v := fun r hr k v hv => by
    have hk : k < ie.size := by rw [← lenR r hr]; exact (List.getElem?_eq_some_iff.1 hv).1
    have := le r hr
    have h1 := (hH (r * ie.size + k) (by simp; omega)).1
    rw [Nat.zero_add] at h1 ⊢
    rw [h1]
    unfold rowAt at hv
    rw [List.getElem?_take_of_lt hk, List.getElem?_drop] at hv
    simp [hv]
  have fR : ∀ r, r < len → ∀ k, k < ie.size → w.frozen? ⟨k0, 0 + r * ie.size + k, none⟩ = false := fun r hr k hk => by
    have := le r hr
    have h1 := (hH (r * ie.size + k) (by simp; omega)).2
    rw [Nat.zero_add] at h1 ⊢
    exact h1
  have hrun := Lib.run_swap_cells (P := P) gS e ie hie hagg (k0) 0 len cap i j hi hj (rowAt ie.size i vs) (rowAt ie.size j vs) (lenR i hi) (lenR j hj) (oneR i) (oneR j) w (cR i hi) (cR j hj) (fR i hi) (fR j hj)
  have hW : (w.setCells (k0) (0 + i * ie.size) (rowAt ie.size j vs)).setCells (k0) (0 + j * ie.size) (rowAt ie.size i vs) = putRow id w (k0) 0 (swapVs ie.size vs i j) := by
    have hw := putRow_self id w (k0) 0 vs.toArray hH
    have h1 := setCells_putRow w (k0) 0 (rowAt ie.size j vs) (i * ie.size) vs.toArray (by have := le i hi; rw [lenR j hj]; simpa using this)
    rw [hw] at h1
    rw [h1, setCells_putRow w (k0) 0 (rowAt ie.size i vs) (j * ie.size) _ (by have := le j hj; rw [lenR i hi, size_setMany]; simpa using this)]
    rfl
  rw [hW] at hrun
  have hsz := swapVs_size (z := ie.size) (i := i) (j := j) (vs := vs)
  have hall := swapVs_all (z := ie.size) (i := i) (j := j) hpl
  generalize swapVs ie.size vs i j = F at hrun hsz hall ⊢
  have hb1 : (putRow id w (k0) 0 F).heap[k0]? = some (.cells (putCells id 0 F arr) ty (0, 0)) := by
    simp [putRow, mapBlock, Array.getElem?_modify, e1, onCells]
  have hold : ∀ k', k' ≠ k0 → (putRow id w (k0) 0 F).heap[k']? = w.heap[k']? := fun k' hk => by
    have : k0 ≠ k' := fun e => hk e.symm
    simp only [putRow, mapBlock, Array.getElem?_modify]
    rw [if_neg this]
  obtain ⟨hE, hS'⟩ := change_ok (cs' := F.toList.map sV) hS e6 g1 e1 hb1 (by simp [putCells]) (by simp; omega) (by simp [putCells]; omega) rfl rfl rfl (by simp [putRow, mapBlock]) hold (by
    rw [show (F.toList.map sV).length = F.size by simp, take_putId arr F (by omega)]
    exact rv_scals _ hall) (by
    intro y hy
    obtain ⟨s, hs, rfl⟩ := List.mem_map.1 hy
    have := List.all_eq_true.1 hall s hs
    simp [V.one])
  refine ⟨.tuple #[], _, G, ?_, hE, hS', .tup .nil⟩
  rw [hx, hrun]
  rfl
end Go.AM

set_option linter.unusedVariables false
set_option linter.unusedSimpArgs false
namespace Go.AM
open Go.Sort

/-- The environment in which the functions of T may be called, n deep. -/
noncomputable def envN (P : Program) (base : Env) (T : Nat → Option AFn) : Nat → Env
  | 0 => base
  | n + 1 => fun c slot args h => if c % 2 = 0 then base c slot args h else match T (c / 2) with
    | some F => runFn P (envN P base T n) F args h
    | none => base c slot args h

section
variable {P : Program} {base : Env} {T : Nat → Option AFn} {α : Type} [Inhabited α]

theorem envN_even {n f : Nat} : envN P base T n (2 * f) = base (2 * f) := by
  cases n with
  | zero => rfl
  | succ n =>
    funext slot args h
    simp only [envN]
    rw [if_pos (by omega)]
theorem envN_odd {n f : Nat} {F : AFn} (hT : T f = some F) : envN P base T (n + 1) (2 * f + 1) = runIn P (envN P base T n) F := by
  funext slot args h
  simp only [envN]
  rw [if_neg (by omega), show (2 * f + 1) / 2 = f by omega, hT]
  rfl
theorem dynV_envN {n : Nat} {f : V} {args : List V} {h : Heap} : dynV (envN P base T n) f args h = dynV base f args h := by
  cases f <;> simp only [dynV, envN_even]

theorem envN_ok {md : Modes} (hb : EnvOK P base) (hT : ∀ f F, T f = some F → callable P f = true ∧ compFn P (fun _ => false) md f = some F) : ∀ n, EnvOK P (envN P base T n)
  | 0 => hb
  | n + 1 => by
    intro c slot args H v H' h
    simp only [envN] at h
    split at h
    · exact hb c slot args H v H' h
    · split at h
      · rename_i F hF
        obtain ⟨h1, h2⟩ := hT _ F hF
        exact .inl ⟨h1, fn_ok (envN_ok hb hT n) (fun f hf => by cases hf) h2 h⟩
      · exact hb c slot args H v H' h

/-- The same order and row, further up. -/
def LS.at (L : LS base α) (P : Program) (T : Nat → Option AFn) (n : Nat) : LS (envN P base T n) α where
  less := L.less
  swap := L.swap
  lt := L.lt
  n := L.n
  sz := L.sz
  Lh := L.Lh
  low := L.low
  size := L.size
  big := L.big
  oneL := L.oneL
  oneS := L.oneS
  nilL := L.nilL
  nilS := L.nilS
  same := L.same
  lessW hL i j hi hj := by rw [dynV_envN]; exact L.lessW hL i j hi hj
  swapW hL i j hi hj := by
    obtain ⟨h', h1, h2⟩ := L.swapW hL i j hi hj
    exact ⟨h', by rw [dynV_envN]; exact h1, h2⟩

theorem CS.step {L : LS base α} {n f : Nat} {F : AFn} {args : List V} {H : Heap} {A' : Array α} {v0 : V} (hT : T f = some F) (h : R P (envN P base T n) F args H (PostS (L.at P T n) H A' v0)) : CS (L.at P T (n + 1)) (2 * f + 1) args H A' v0 := by
  obtain ⟨⟨v, h'⟩, h1, h2⟩ := h
  have p : PostS (L.at P T n) H A' v0 v h' := h2
  refine ⟨h', ?_, p.lh, p.keep⟩
  rw [envN_odd hT]
  exact h1.trans (by rw [p.val])
theorem CP.step {L : LS base α} {n f C s : Nat} {F : AFn} {args : List V} {H : Heap} {A : Array α} {v0 : V} (hT : T f = some F) (h : R P (envN P base T n) F args H (PostP (L.at P T n) C s H A v0)) : CP (L.at P T (n + 1)) (2 * f + 1) args C s H A v0 := by
  obtain ⟨⟨v, h'⟩, h1, h2⟩ := h
  have p : PostP (L.at P T n) C s H A v0 v h' := h2
  refine ⟨h', ?_, p.lh, p.keep, p.cell⟩
  rw [envN_odd hT]
  exact h1.trans (by rw [p.val])

/-- Which code is whose. -/
structure SortT (T : Nat → Option AFn) (fI fH fB fC fR fP fE fT fS fD fO fM fA fX fN : Nat) : Prop where
  tI : T fI = some c_sort_insertionSort_func
  tD : T fD = some c_sort_siftDown_func
  tH : T fH = some (c_sort_heapSort_func fD)
  tR : T fR = some c_sort_reverseRange_func
  tP : T fP = some c_sort_partialInsertionSort_func
  tE : T fE = some c_sort_partitionEqual_func
  tT : T fT = some c_sort_partition_func
  tO : T fO = some c_sort_order2_func
  tM : T fM = some (c_sort_median_func fO)
  tA : T fA = some (c_sort_medianAdjacent_func fM)
  tC : T fC = some (c_sort_choosePivot_func fA fM)
  tX : T fX = some c_sort_xorshift_Next
  tB : T fB = some (c_sort_breakPatterns_func fN fX)
  tS : T fS = some (c_sort_pdqsort_func fI fH fB fC fR fP fE fT fS)

variable {fI fH fB fC fR fP fE fT fS fD fO fM fA fX fN : Nat}

theorem pdq_all (t : SortT T fI fH fB fC fR fP fE fT fS fD fO fM fA fX fN) (L : LS base α) (kn : ∀ (h : Heap) (l : Nat), l < 4611686018427387904 → base (2 * fN) none [nV l] h = some (uV (1 <<< bitsLen l), h)) :
    ∀ (N n : Nat), N ≤ n → ∀ {H : Heap} {A : Array α}, L.Lh H A → ∀ a b lim : Nat, a ≤ b → b ≤ L.sz → b - a ≤ N → lim < 4611686018427387904 →
      CS (L.at P T (n + 5)) (2 * fS + 1) [.agg [L.less, L.swap], nV a, nV b, nV lim] H (pdq L.lt A a b lim true true) (.tup []) := by
  have kn' : ∀ n (h : Heap) (l : Nat), l < 4611686018427387904 → envN P base T n (2 * fN) none [nV l] h = some (uV (1 <<< bitsLen l), h) := fun n h l hl => by rw [envN_even]; exact kn h l hl
  have kD : ∀ n {H A}, L.Lh H A → ∀ lo hi first : Nat, first + hi ≤ L.sz → lo ≤ L.sz → CS (L.at P T (n + 1)) (2 * fD + 1) [.agg [L.less, L.swap], nV lo, nV hi, nV first] H (siftDown L.lt hi first lo A) (.tup []) :=
    fun n H A hL lo hi first h1 h2 => CS.step t.tD (W_siftDown (L := L.at P T n) hL lo hi first h1 h2)
  have kO : ∀ n {H A}, L.Lh H A → ∀ a b C s : Nat, a < L.sz → b < L.sz → L.n ≤ C → H[C]? = some (.cells [nV s]) → s < 100 →
      CP (L.at P T (n + 1)) (2 * fO + 1) [.agg [L.less, L.swap], nV a, nV b, .ptr C 1 0] C (order2 L.lt A a b s).2.2 H A (.tup [nV (order2 L.lt A a b s).1, nV (order2 L.lt A a b s).2.1]) :=
    fun n H A hL a b C s h1 h2 h3 h4 h5 => CP.step t.tO (W_order2 (L := L.at P T n) hL a b C s h1 h2 h3 h4 h5)
  have kM : ∀ n {H A}, L.Lh H A → ∀ a b c s C : Nat, a < L.sz → b < L.sz → c < L.sz → L.n ≤ C → H[C]? = some (.cells [nV s]) → s < 50 →
      CP (L.at P T (n + 2)) (2 * fM + 1) [.agg [L.less, L.swap], nV a, nV b, nV c, .ptr C 1 0] C (median L.lt A a b c s).2 H A (nV (median L.lt A a b c s).1) :=
    fun n H A hL a b c s C h1 h2 h3 h4 h5 h6 => CP.step t.tM (W_median (L := L.at P T (n + 1)) (fun {H} hL a b s q1 q2 q3 q4 => kO n hL a b C s q1 q2 h4 q3 q4) hL a b c s h1 h2 h3 h4 h5 h6)
  have kA : ∀ n {H A}, L.Lh H A → ∀ a s C : Nat, a + 1 < L.sz → 1 ≤ a → L.n ≤ C → H[C]? = some (.cells [nV s]) → s < 50 →
      CP (L.at P T (n + 3)) (2 * fA + 1) [.agg [L.less, L.swap], nV a, .ptr C 1 0] C (medianAdjacent L.lt A a s).2 H A (nV (medianAdjacent L.lt A a s).1) :=
    fun n H A hL a s C h1 h2 h3 h4 h5 => CP.step t.tA (W_medianAdjacent (L := L.at P T (n + 2)) (fun {H} hL a b c s q1 q2 q3 q4 q5 => kM n hL a b c s C q1 q2 q3 h3 q4 q5) hL a s h1 h2 h3 h4 h5)
  have kX : ∀ n (h : Heap) (C X : Nat), X < 18446744073709551616 → h[C]? = some (.cells [uV X]) → envN P base T (n + 1) (2 * fX + 1) none [.ptr C 1 0] h = some (uV (xorNextN X), h.set C (.cells [uV (xorNextN X)])) := fun n h C X hX hC => by
    obtain ⟨⟨v, h'⟩, h1, h2⟩ := W_Next (P := P) (env := envN P base T n) hX hC
    rw [envN_odd t.tX]
    have h2 : v = uV (xorNextN X) ∧ h' = h.set C (.cells [uV (xorNextN X)]) := h2
    obtain ⟨rfl, rfl⟩ := h2
    exact h1
  have K : ∀ n N, (∀ {H : Heap} {A : Array α}, L.Lh H A → ∀ a b lim : Nat, a ≤ b → b ≤ L.sz → b - a < N → lim < 4611686018427387904 → CS (L.at P T (n + 4)) (2 * fS + 1) [.agg [L.less, L.swap], nV a, nV b, nV lim] H (pdq L.lt A a b lim true true) (.tup [])) →
      PdqK (L.at P T (n + 4)) fI fH fB fC fR fP fE fT fS N := fun n N hs =>
    { ki := fun {H A} hL a b h1 h2 => CS.step t.tI (W_insertionSort (L := L.at P T (n + 3)) hL a b h2 h1)
      kh := fun {H A} hL a b h1 h2 => CS.step t.tH (W_heapSort (L := L.at P T (n + 3)) (kD (n + 2)) hL a b h2 h1)
      kb := fun {H A} hL a b h1 h2 => CS.step t.tB (W_breakPatterns (L := L.at P T (n + 3)) (kn' (n + 3)) (kX (n + 2)) hL a b h1 h2)
      kc := fun {H A} hL a b h1 h2 => CS.step t.tC (W_choosePivot (L := L.at P T (n + 3)) (kA n) (kM (n + 1)) hL a b h1 h2)
      kr := fun {H A} hL a b h1 h2 => CS.step t.tR (W_reverseRange (L := L.at P T (n + 3)) hL a b h2 h1)
      kp := fun {H A} hL a b h1 h2 => CS.step t.tP (W_partialInsertionSort (L := L.at P T (n + 3)) hL a b h2 h1)
      ke := fun {H A} hL a b p h1 h2 h3 => CS.step t.tE (W_partitionEqual (L := L.at P T (n + 3)) hL a b p h2 h1 h3)
      kt := fun {H A} hL a b p h1 h2 h3 => CS.step t.tT (W_partition (L := L.at P T (n + 3)) hL a b p h2 h1 h3)
      ks := hs }
  intro N
  induction N with
  | zero =>
    intro n _ H A hL a b lim h1 h2 h3 h4
    exact CS.step t.tS (W_pdqsort (L := L.at P T (n + 4)) (K n 0 (fun _ _ _ _ _ _ h => absurd h (Nat.not_lt_zero _))) hL a b lim h1 h2 h3 h4)
  | succ N ih =>
    intro n hn H A hL a b lim h1 h2 h3 h4
    obtain ⟨m, rfl⟩ : ∃ m, n = m + 1 := ⟨n - 1, by omega⟩
    exact CS.step t.tS (W_pdqsort (L := L.at P T (m + 1 + 4)) (K (m + 1) (N + 1) (fun hL a b lim q1 q2 q3 q4 => ih m (by omega) hL a b lim q1 q2 (by omega) q4)) hL a b lim h1 h2 h3 h4)
end
end Go.AM

set_option linter.unusedVariables false
set_option linter.unusedSimpArgs false
namespace Go.AM
open Go.Sort Go.Shelf

/-- sort.Slice at a slice of structs: what its pdqsort does. -/
noncomputable def sliceFn (P : Program) (base : Env) (T : Nat → Option AFn) (pd : AFn) (tid z fW : Nat) (hd : Value) : Fun := fun _ args H => match args with
  | [.ifc t (.hsl b g 0 z' true len), .clo gid caps] => if t = tid ∧ z' = z then
      (if len ≤ 1 then some (.tup [], H)
       else if len < 4611686018427387904 then runFn P (envN P base T (len + 4)) pd [.agg [.clo gid caps, .clo fW [.hsl b g 0 z' true len, .kv hd]], nV 0, nV len, nV (Lib.bitLen len)] H
       else none) else none
  | _ => none

theorem args2 {w : World} {base : Nat} {M : Nat → Prop} {H : Heap} {G : List Nat} {t g : Nat} {y : V} {caps : List V} {xs : Array Value} (h : RVL w base M H G [.ifc t y, .clo g caps] xs.toList) :
    ∃ x ys, xs = #[.iface t x, .func (.func g) #[] ys] ∧ RV w base M H G y x ∧ RVL w base M H G caps ys.toList := by
  generalize hl : xs.toList = l at h
  cases h with
  | cons a h =>
    cases h with
    | cons b h =>
      cases h
      cases a with
      | ifc a =>
        cases b with
        | clo b => exact ⟨_, _, by apply Array.ext'; exact hl, a, b⟩

theorem runFn_none {P : Program} {env : Env} {F : AFn} {args : List V} {H H' : Heap} {v : V} (hr : F.res = []) (h : runFn P env F args H = some (v, H')) : v = .tup [] := by
  unfold runFn at h
  split at h
  · obtain ⟨p, h1, h2⟩ := Option.bind_eq_some_iff.1 h
    rw [hr] at h2
    have e : ∀ st, retV st [] = some (.tup []) := fun st => rfl
    split at h2
    · cases h2
    · rw [e] at h2
      cases h2
      rfl
  · cases h

theorem sliceFn_ok {P : Program} {ρ : Ren} (L : Go.Proofs.LaysGg.n6 P ρ) (t e : TypeId) (i ie : TypeInfo) (hi : P.info? t = some i) (hd : i.desc = .slice e) (hpk : P.packed t = false) (hie : P.info? e = some ie) (ke : Nat) (hke : ∀ w, (Extern.Rtype.kind e).run P w = .ok ke w)
    (fW : Nat) (hf : ∀ n, ∃ f, P.funcs.findIdx? (·.name == "internal/reflectlite" ++ ".Swapper$" ++ toString (Lib.swapperK n ie ke)) = some f)
    (hfW : ∀ n, 2 ≤ n → P.funcs.findIdx? (·.name == "internal/reflectlite" ++ ".Swapper$" ++ toString (Lib.swapperK n ie ke)) = some fW)
    (hcall : callable P (ρ.f 6) = true) {base : Env} {T : Nat → Option AFn} {md : Modes} {pd : AFn} (hE : ∀ n, EnvOK P (envN P base T n)) (hc : compFn P (fun _ => false) md (ρ.f 14) = some pd) (hres : pd.res = []) (z : Nat) :
    FunOK P (ρ.f 6) (sliceFn P base T pd t z fW (typeHandle P e)) := by
  intro slot args H v H' hg
  refine .inl ⟨hcall, ?_⟩
  unfold sliceFn at hg
  split at hg
  case h_2 => cases hg
  rename_i t' b g z' len gid caps
  split at hg
  case isFalse => cases hg
  rename_i ht
  obtain ⟨rfl, rfl⟩ := ht
  intro base0 X w G xs hS hl
  obtain ⟨x, ys, rfl, hx, hy⟩ := args2 hl
  obtain ⟨p, cap, rfl⟩ : ∃ p cap, x = .slice p len cap := by
    rcases rv_hslz hx with ⟨a, cap, rfl, _⟩ | ⟨rfl, h0⟩
    · exact ⟨_, _, rfl⟩
    · exact ⟨none, 0, by rw [h0]⟩
  split at hg
  · rename_i h1
    simp only [Option.some.injEq, Prod.mk.injEq] at hg
    obtain ⟨rfl, rfl⟩ := hg
    obtain ⟨f, hf⟩ := hf len
    refine (Go.Proofs.Any.sort_Slice_tiny L t' e i ie hi hd hpk hie ke hke p len cap h1 f hf (.func gid) #[] ys w).mono ?_
    rintro e w' ⟨rfl, os, rfl⟩
    have hk : ∀ k, k < w.heap.size → (grow w os).heap[k]? = w.heap[k]? := fun k hk => heap_grow_old _ _ hk
    have hE2 := Ext.quiet hS (w' := grow w os) rfl rfl rfl (by simp [grow]) hk
    exact ⟨_, G, rfl, hE2, hS.quiet hE2 hk, .tup .nil⟩
  · rename_i h1
    split at hg
    case isFalse => cases hg
    rename_i h2
    obtain rfl := runFn_none hres hg
    have hF := fn_ok (hE _) (fun f hf => by cases hf) hc hg
    have hB : Go.Proofs.sliceBound P e ie ke p len cap = #[.slice p len cap, typeHandle P e] := by
      unfold Go.Proofs.sliceBound; rw [if_neg (Go.Proofs.swapperK_gt _ _ _ (by omega))]
    have hW : ∃ os0, Go.Proofs.sliceWorld P ρ t' p len cap w = grow w os0 := by
      unfold Go.Proofs.sliceWorld; rw [alloc_eq_grow, alloc_eq_grow, grow_grow]; exact ⟨_, rfl⟩
    obtain ⟨os0, hW⟩ := hW
    have hk : ∀ k, k < w.heap.size → (grow w os0).heap[k]? = w.heap[k]? := fun k hk => heap_grow_old _ _ hk
    have hE2 := Ext.quiet hS (w' := grow w os0) rfl rfl rfl (by simp [grow]) hk
    have hS2 := hS.quiet hE2 hk
    have hC := hF base0 X (grow w os0) G #[.agg #[.func (.func gid) #[] ys, .func (.func fW) #[] #[.slice p len cap, typeHandle P e]], .int .i64 0, .int .i64 len, .int .i64 (Lib.bitLen len)] hS2
      (.cons (.agg (.cons (.clo (RVL.ext hE2 hy)) (.cons (.clo (.cons (RV.ext hE2 hx) (.cons (.kv rfl) .nil))) .nil))) (.cons (.i (.s rfl)) (.cons (.i (.s rfl)) (.cons (.i (.s rfl)) .nil))))
    refine (Go.Proofs.Any.sort_Slice_of_pdq L t' e i ie hi hd hpk hie ke hke p len cap h2 fW (hfW len (by omega)) (.func gid) #[] ys w (fun w' => ∃ G', Ext (grow w os0) H G w' H' G' ∧ SimH base0 X w' H' G') ?_).mono ?_
    · rw [hB, hW]
      refine hC.mono ?_
      rintro e w' ⟨x, G', rfl, q1, q2, q3⟩
      refine ⟨?_, G', q1, q2⟩
      cases q3 with
      | tup q3 =>
        rename_i xs
        have : xs = #[] := by
          apply Array.ext'
          generalize xs.toList = l at q3
          cases q3
          rfl
        rw [this]
    · rintro e w' ⟨rfl, G', q1, q2⟩
      exact ⟨_, G', rfl, hE2.trans q1, q2, .tup .nil⟩
end Go.AM

set_option linter.unusedVariables false
set_option linter.unusedSimpArgs false
namespace Go.AM
open Go.Sort

/-- Structs of scalars. -/
structure Scal (α : Type) [Pic α] where
  encS : α → List Value
  hE : ∀ x, cellsV x = (encS x).map sV
  hz : ∀ x, (encS x).length = Pic.z α
  hp : ∀ x, (encS x).all plain = true
  z0 : 0 < Pic.z α

theorem flat_get {α : Type} {f : α → List Value} {z : Nat} (hz : ∀ x, (f x).length = z) : ∀ (l : List α) (i c : Nat), c < z → (l.flatMap f)[i * z + c]? = (l[i]?).bind fun x => (f x)[c]?
  | [], i, c, hc => by simp
  | x :: l, 0, c, hc => by
    rw [List.flatMap_cons, Nat.zero_mul, Nat.zero_add, List.getElem?_append_left (by rw [hz]; exact hc)]
    rfl
  | x :: l, i + 1, c, hc => by
    rw [List.flatMap_cons, List.getElem?_append_right (by rw [hz, Nat.add_mul, Nat.one_mul]; omega), hz, show (i + 1) * z + c - z = i * z + c by rw [Nat.add_mul, Nat.one_mul]; omega, flat_get hz l i c hc]
    rfl
theorem flat_len {α : Type} {f : α → List Value} {z : Nat} (hz : ∀ x, (f x).length = z) : ∀ (l : List α), (l.flatMap f).length = l.length * z
  | [] => by simp
  | x :: l => by rw [List.flatMap_cons, List.length_append, hz, flat_len hz l, List.length_cons, Nat.add_mul, Nat.one_mul, Nat.add_comm]

theorem flat_flatK {α : Type} [Inhabited α] {f : α → List Value} {z : Nat} (hz : ∀ x, (f x).length = z) (h0 : 0 < z) (A : Array α) : A.toList.flatMap f = (flatK f z A).toList := by
  apply List.ext_getElem?
  intro t
  by_cases ht : t < A.size * z
  · have h1 : t / z < A.size := (Nat.div_lt_iff_lt_mul h0).2 ht
    have h2 : t % z < z := Nat.mod_lt _ h0
    have h3 := flat_get hz A.toList (t / z) (t % z) h2
    rw [Nat.div_add_mod' t z] at h3
    rw [h3]
    simp only [Array.getElem?_toList]
    have h4 : t < (flatK f z A).size := by rw [size_flatK]; exact ht
    have h5 := get_flatK f z A t ht
    rw [getElem!_pos _ t h4] at h5
    rw [Array.getElem?_eq_getElem h4, h5]
    have h6 : t % z < (f A[t / z]!).length := by rw [hz]; exact h2
    rw [getElem!_pos (f A[t / z]!) (t % z) h6]
    rw [Array.getElem?_eq_getElem h1, Option.bind_some, ← getElem!_pos A (t / z) h1, List.getElem?_eq_getElem h6]
  · rw [List.getElem?_eq_none (by rw [flat_len hz, Array.length_toList]; omega), List.getElem?_eq_none (by rw [Array.length_toList, size_flatK]; omega)]

theorem rowAt_flat {α : Type} [Inhabited α] {f : α → List Value} {z : Nat} (hz : ∀ x, (f x).length = z) (A : Array α) {i : Nat} (hi : i < A.size) : rowAt z i (A.toList.flatMap f) = f A[i]! := by
  apply List.ext_getElem?
  intro c
  unfold rowAt
  by_cases hc : c < z
  · rw [List.getElem?_take_of_lt hc, List.getElem?_drop, flat_get hz A.toList i c hc, Array.getElem?_toList, Array.getElem?_eq_getElem hi, getElem!_pos A i hi]
    rfl
  · rw [List.getElem?_take, if_neg hc, List.getElem?_eq_none (by rw [hz]; omega)]

theorem swapVs_flat {α : Type} [Inhabited α] {f : α → List Value} {z : Nat} (hz : ∀ x, (f x).length = z) (h0 : 0 < z) (A : Array α) {i j : Nat} (hi : i < A.size) (hj : j < A.size) : (swapVs z (A.toList.flatMap f) i j).toList = (swp A i j).toList.flatMap f := by
  unfold swapVs
  rw [rowAt_flat hz A hi, rowAt_flat hz A hj, flat_flatK hz h0 A, flat_flatK hz h0 (swp A i j), ← setMany_swp f z hz A i j hi hj]

theorem rows_flat {α : Type} [Pic α] (S : Scal α) : ∀ (l : List α), rows l = (l.flatMap S.encS).map sV
  | [] => rfl
  | x :: l => by
    show cellsV x ++ rows l = _
    rw [rows_flat S l, S.hE, List.flatMap_cons, List.map_append]
theorem scal_sV : ∀ (vs : List Value), (vs.map sV).mapM scal = some vs
  | [] => rfl
  | v :: vs => by
    rw [List.map_cons, List.mapM_cons, scal_sV vs]
    rfl
theorem flat_plain {α : Type} [Pic α] (S : Scal α) (l : List α) : (l.flatMap S.encS).all plain = true := by
  rw [List.all_flatMap, List.all_eq_true]
  intro x _
  exact S.hp x

/-- The list in order, as Go's own sort has it. -/
def sortL {α : Type} [Inhabited α] (lt : α → α → Bool) (xs : List α) : List α := if xs.length ≤ 1 then xs else (pdq lt xs.toArray 0 xs.length (Lib.bitLen xs.length) true true).toList

theorem extract_all {α : Type} {d : Array α} {n : Nat} (h : n = d.size) : (d.extract 0 n).toList = d.toList := by
  subst h; simp

theorem sortL_perm {α : Type} [Inhabited α] {lt : α → α → Bool} (hO : SWO lt) (xs : List α) : (sortL lt xs).Perm xs := by
  unfold sortL
  split
  · exact List.Perm.refl _
  · have h := (pdq_sorts lt hO xs.toArray 0 xs.length (Lib.bitLen xs.length) true true (Nat.zero_le _) (by simp) (Or.inl rfl)).1
    have h2 := h.2.2
    rw [extract_all (by rw [h.1]; simp), extract_all (by simp)] at h2
    simpa using h2
theorem sortL_sorted {α : Type} [Inhabited α] {lt : α → α → Bool} (hO : SWO lt) (xs : List α) : (sortL lt xs).Pairwise fun x y => lt y x = false := by
  unfold sortL
  split
  · rename_i h
    match xs, h with
    | [], _ => exact List.Pairwise.nil
    | [x], _ => exact List.pairwise_singleton _ _
  · have h := pdq_sorts lt hO xs.toArray 0 xs.length (Lib.bitLen xs.length) true true (Nat.zero_le _) (by simp) (Or.inl rfl)
    have hs := h.1.1
    have h2 := h.2
    generalize pdq lt xs.toArray 0 xs.length (Lib.bitLen xs.length) true true = d at hs h2
    rw [List.pairwise_iff_getElem]
    intro i j hi hj hij
    have hi' : i < d.size := by simpa using hi
    have hj' : j < d.size := by simpa using hj
    have := h2 i j (Nat.zero_le _) hij (by simp at hs; omega)
    rw [getElem!_pos d i hi', getElem!_pos d j hj'] at this
    simpa using this
theorem sortL_len {α : Type} [Inhabited α] {lt : α → α → Bool} (hO : SWO lt) (xs : List α) : (sortL lt xs).length = xs.length := (sortL_perm hO xs).length_eq

section
variable {α : Type} [Pic α] [Inhabited α]
/-- A row that the sort may turn, all below it standing still. -/
structure RowH (b len : Nat) (H0 H : Heap) (A : Array α) : Prop where
  size : A.size = len
  le : H0.length ≤ H.length
  row : H[b]? = some (.cells (rows A.toList))
  keep : ∀ x, x < H0.length → x ≠ b → H[x]? = H0[x]?

def rowLS {base : Env} (S : Scal α) (gid fW b c len : Nat) (hd : Value) (lt : α → α → Bool) (H0 : Heap) (hs : base (2 * fW) = swapFn (Pic.z α) hd)
    (hl : ∀ (H : Heap) (A : Array α), H[b]? = some (.cells (rows A.toList)) → H[c]? = some (.cells [.hsl b (len * Pic.z α) 0 (Pic.z α) true len]) → A.size = len → ∀ i j : Nat, i < len → j < len → base (2 * gid) none [nV i, nV j, .ptr c 1 0] H = some (bV (lt A[i]! A[j]!), H))
    (hb : b < H0.length) (hbc : c ≠ b) (hc : H0[c]? = some (.cells [.hsl b (len * Pic.z α) 0 (Pic.z α) true len])) (hlen : len < 4611686018427387904) : LS base α where
  less := .clo gid [.ptr c 1 0]
  swap := .clo fW [.hsl b (len * Pic.z α) 0 (Pic.z α) true len, .kv hd]
  lt := lt
  n := H0.length
  sz := len
  Lh := RowH b len H0
  low h := h.le
  size h := h.size
  big := hlen
  oneL := rfl
  oneS := rfl
  nilL := rfl
  nilS := rfl
  same h h1 h2 := ⟨h.size, Nat.le_trans h.le h1, (h2 b hb).trans h.row, fun x hx hn => (h2 x hx).trans (h.keep x hx hn)⟩
  lessW {H A} h i j hi hj := by
    have hcl : c < H0.length := (List.getElem?_eq_some_iff.1 hc).1
    exact hl H A h.row ((h.keep c hcl hbc).trans hc) h.size i j hi hj
  swapW {H A} h i j hi hj := by
    have hbl : b < H.length := (List.getElem?_eq_some_iff.1 h.row).1
    have hg : getCells H b (len * Pic.z α) = some (rows A.toList) := by
      unfold getCells
      rw [h.row]
      simp [rows_len, h.size]
    have hA := h.size
    refine ⟨H.set b (.cells (rows (swp A i j).toList)), ?_, ⟨by rw [size_swp]; exact h.size, by rw [List.length_set]; exact h.le, List.getElem?_set_self hbl, fun x hx hn => by rw [List.getElem?_set_ne (Ne.symm hn)]; exact h.keep x hx hn⟩, ⟨by rw [List.length_set]; exact Nat.le_refl _, fun x h1 h2 => List.getElem?_set_ne (by omega)⟩⟩
    show base (2 * fW) none [nV i, nV j, .hsl b (len * Pic.z α) 0 (Pic.z α) true len, .kv hd] H = _
    rw [hs]
    simp only [swapFn]
    rw [if_pos ⟨trivial, trivial, S.z0, trivial, by omega, by omega, by omega, by omega⟩, hg, Option.bind_some, rows_flat S, scal_sV, Option.bind_some, if_pos (flat_plain S _)]
    simp only [Int.toNat_natCast]
    rw [swapVs_flat S.hz S.z0 A (by omega) (by omega), ← rows_flat S]

theorem sort_rows {P : Program} {base : Env} {T : Nat → Option AFn} {fI fH fB fC fR fP fE fT fS fD fO fM fA fX fN : Nat} (t : SortT T fI fH fB fC fR fP fE fT fS fD fO fM fA fX fN) (kn : ∀ (h : Heap) (l : Nat), l < 4611686018427387904 → base (2 * fN) none [nV l] h = some (uV (1 <<< bitsLen l), h))
    (S : Scal α) {gid fW b c tid : Nat} {hd : Value} {lt : α → α → Bool} {H0 : Heap} {xs : List α} (hs : base (2 * fW) = swapFn (Pic.z α) hd)
    (hl : ∀ (H : Heap) (A : Array α), H[b]? = some (.cells (rows A.toList)) → H[c]? = some (.cells [.hsl b (xs.length * Pic.z α) 0 (Pic.z α) true xs.length]) → A.size = xs.length → ∀ i j : Nat, i < xs.length → j < xs.length → base (2 * gid) none [nV i, nV j, .ptr c 1 0] H = some (bV (lt A[i]! A[j]!), H))
    (hb : H0[b]? = some (.cells (rows xs))) (hbc : c ≠ b) (hc : H0[c]? = some (.cells [.hsl b (xs.length * Pic.z α) 0 (Pic.z α) true xs.length])) (hlen : xs.length < 4611686018427387904) :
    ∃ h', sliceFn P base T (c_sort_pdqsort_func fI fH fB fC fR fP fE fT fS) tid (Pic.z α) fW hd none [.ifc tid (.hsl b (xs.length * Pic.z α) 0 (Pic.z α) true xs.length), .clo gid [.ptr c 1 0]] H0 = some (.tup [], h') ∧
      h'[b]? = some (.cells (rows (sortL lt xs))) ∧ Keep [b] H0 h' := by
  simp only [sliceFn]
  rw [if_pos ⟨trivial, trivial⟩]
  unfold sortL
  by_cases h1 : xs.length ≤ 1
  · rw [if_pos h1, if_pos h1]
    exact ⟨H0, rfl, hb, Nat.le_refl _, fun _ _ _ => rfl⟩
  · rw [if_neg h1, if_neg h1, if_pos hlen]
    have hbl : b < H0.length := (List.getElem?_eq_some_iff.1 hb).1
    have hlim : Lib.bitLen xs.length < 4611686018427387904 := Nat.lt_of_le_of_lt (Lib.bitLen_le xs.length 62 (by omega) (by omega)) (by omega)
    obtain ⟨h', e1, e2, e3⟩ := pdq_all (P := P) t (rowLS S gid fW b c xs.length hd lt H0 hs hl hbl hbc hc hlen) kn xs.length xs.length (Nat.le_refl _) (H := H0) (A := xs.toArray)
      (show RowH b xs.length H0 H0 xs.toArray from ⟨by simp, Nat.le_refl _, by simpa using hb, fun _ _ _ => rfl⟩) 0 xs.length (Lib.bitLen xs.length) (Nat.zero_le _) (Nat.le_refl _) (by omega) hlim
    have e2' : RowH b xs.length H0 h' (pdq lt xs.toArray 0 xs.length (Lib.bitLen xs.length) true true) := e2
    rw [envN_odd t.tS] at e1
    exact ⟨h', e1, e2'.row, e2'.le, fun x hx hn => e2'.keep x hx (by simpa using hn)⟩
end
end Go.AM

set_option linter.unusedVariables false
set_option linter.unusedSimpArgs false
namespace Go.AM
open Pic (enc dec dec_enc dec_sub)
open PicA (encA decA decA_encA decA_sub)

/-- A list behind a pointer. -/
structure PtrL (α : Type) where
  l : List α
def decPtrL {α : Type} [Pic α] : I → Option (PtrL α)
  | .ip [x] => (dec x).map PtrL.mk
  | _ => none
instance {α : Type} [Pic α] : Pic (PtrL α) where
  z := 1
  ag := false
  enc p := .ip [enc p.l]
  dec := decPtrL
  dec_enc x := by simp [decPtrL, dec_enc]
  len x := rfl
  pos := by decide
  one := .inr rfl
  row x := rfl
  dec_sub x a h := by
    unfold decPtrL at h
    split at h
    · obtain ⟨l, h1, rfl⟩ := Option.map_eq_some_iff.1 h
      exact .ip (.cons (dec_sub _ _ h1) .nil)
    · cases h

theorem gc_app {h l : Heap} {b g : Nat} {cs : List V} (hc : getCells h b g = some cs) : getCells (h ++ l) b g = some cs := by rw [gc_left (gc_lt hc)]; exact hc
/-- A list in a block of its own behind T, or no list yet. -/
def OwnV {α : Type} [Pic α] (z T : Nat) (h : Heap) (v : V) (xs : List α) : Prop := (xs = [] ∧ v = .i (.s (.slice none 0 0))) ∨ ∃ B, T < B ∧ v = .hsl B (xs.length * z) 0 z true xs.length ∧ getCells h B (xs.length * z) = some (rows xs)

theorem OwnV.app {α : Type} [Pic α] {z T : Nat} {h : Heap} {v : V} {xs : List α} (o : OwnV z T h v xs) (l : Heap) : OwnV z T (h ++ l) v xs := by
  rcases o with ⟨h1, h2⟩ | ⟨B, h1, h2, h3⟩
  · exact .inl ⟨h1, h2⟩
  · exact .inr ⟨B, h1, h2, gc_app h3⟩
theorem snap_own {α : Type} [Pic α] [FlatC α] {z T n : Nat} {f : Bool} {h : Heap} {v : V} {xs : List α} (hz : z = Pic.z α) (ha : Pic.ag α = true) (o : OwnV z T h v xs) : ∃ x, snap (n + 2) f h v = some x ∧ (dec x : Option (List α)) = some xs := by
  rcases o with ⟨rfl, rfl⟩ | ⟨B, _, rfl, hg⟩
  · exact ⟨_, by simp [snap, flat], dec_nil⟩
  · by_cases h0 : xs.length = 0
    · have := List.eq_nil_of_length_eq_zero h0
      subst this
      exact ⟨.sl z [], by simp [snap_hsl], dec_sl0⟩
    · refine ⟨.sl z (xs.map enc), ?_, dec_sl1 hz⟩
      rw [snap_hsl, if_neg h0, hg, Option.bind_some, List.drop_zero, take_rows (by rw [rows_len, hz]; exact Nat.le_refl _), snapA_rowsF, Option.bind_some, mkRows_eq hz ha.symm rfl]

theorem snap_mp {n : Nat} {f : Bool} {h : Heap} {b : Nat} {ks : List I} {vs : List V} (hb : h[b]? = some (.map ks vs)) : snap (n + 1) f h (.mp b) = (vs.mapM (snap n f h)).map (I.im ks) := by
  show (match h[b]? with | some (.map ks vs) => (vs.mapM (snap n f h)).map (I.im ks) | _ => none) = _
  rw [hb]

theorem app_rowsL {α : Type} [Pic α] {z y B : Nat} {h : Heap} {xs ys : List α} (hz : z = Pic.z α) (hg : getCells h B (xs.length * z) = some (rows xs)) (hl : (xs.length + ys.length) * y ≤ 140737488355328) :
    ∃ h', stepAppend none z true y h (rows ys) ys.length (.hsl B (xs.length * z) 0 z true xs.length) = some (.hsl B ((xs ++ ys).length * z) 0 z true (xs ++ ys).length, h') ∧ getCells h' B ((xs ++ ys).length * z) = some (rows (xs ++ ys)) ∧ (∀ b, b ≠ B → h'[b]? = h[b]?) ∧ h'.length = h.length := by
  have lB := gc_lt hg
  rw [app_hsl, if_pos ⟨.inl rfl, rfl⟩, hg, Option.bind_some]
  by_cases h0 : ys.length = 0
  · rw [if_pos h0]
    obtain rfl := List.eq_nil_of_length_eq_zero h0
    rw [List.append_nil]
    exact ⟨_, rfl, hg, fun b _ => rfl, rfl⟩
  · rw [if_neg h0, if_pos hl, if_pos rfl]
    refine ⟨_, by rw [List.length_append, Nat.add_mul], ?_, fun b hb => List.getElem?_set_ne (Ne.symm hb), by simp⟩
    rw [gc_set_eq lB, rows_append, if_pos (by rw [List.length_append, rows_len, rows_len, List.length_append, Nat.add_mul, hz])]


/-- A stamp that may stand. -/
def stOK (s : TStamp) : Bool := decide (1 ≤ s.time ∧ s.time ≤ 1000000000000 ∧ 0 ≤ s.actor ∧ s.actor < 16)
def ltS (a b : TStamp) : Bool := decide (a.time < b.time ∨ (a.time = b.time ∧ a.actor < b.actor))
/-- Before another by key. -/
abbrev ltK {α : Type} (key : α → TStamp) (x y : α) : Bool := ltS (key x) (key y)
/-- Of one key the first; none: two with one key differ. -/
def dedK {α : Type} [DecidableEq α] (key : α → TStamp) : Option α → List α → List α → Option (List α)
  | _, [], acc => some acc
  | p, o :: l, acc => match p with
    | some q => if key q = key o then (if q = o then dedK key (some o) l acc else none) else dedK key (some o) l (acc ++ [o])
    | none => dedK key (some o) l (acc ++ [o])
theorem ltK_swo {α : Type} (key : α → TStamp) : Go.Sort.SWO (ltK key) where
  irrefl x := by unfold ltK ltS; rw [decide_eq_false_iff_not]; omega
  trans x y z h1 h2 := by
    unfold ltK ltS at *
    rw [decide_eq_true_eq] at *
    omega
  ntrans x y z h1 h2 := by
    unfold ltK ltS at *
    rw [decide_eq_false_iff_not] at *
    omega
theorem dedK_len {α : Type} [DecidableEq α] {key : α → TStamp} : ∀ (S : List α) (p : Option α) (acc l : List α), dedK key p S acc = some l → l.length ≤ acc.length + S.length
  | [], p, acc, l, h => by
    cases h
    simp
  | o :: S, p, acc, l, h => by
    have ih := dedK_len (key := key) S
    cases p with
    | none =>
      have := ih _ _ _ h
      simp only [List.length_append, List.length_cons, List.length_nil] at this ⊢
      omega
    | some q =>
      simp only [dedK] at h
      split at h
      · split at h
        · have := ih _ _ _ h
          simp only [List.length_cons]
          omega
        · cases h
      · have := ih _ _ _ h
        simp only [List.length_append, List.length_cons, List.length_nil] at this ⊢
        omega
end Go.AM

set_option linter.unusedVariables false
set_option linter.unusedSimpArgs false
set_option maxRecDepth 20000
namespace Go.AM
open Pic (enc dec dec_enc dec_sub)
open PicA (encA decA decA_encA decA_sub)
open Go.Sort (bitsLen)
open Go.RowKit (Below)

theorem gc_cells {h : Heap} {b g : Nat} {cs : List V} (hg : getCells h b g = some cs) (h0 : 0 < g) : h[b]? = some (.cells cs) := (cellsAt_some (getCells_real hg h0)).1

def kSlice {α : Type} [Pic α] [Inhabited α] (tid gid : Nat) (lt : α → α → Bool) (F : Fun) : Prop := ∀ (xs : List α) (H : Heap) (b c : Nat), xs.length < 4611686018427387904 → getCells H b (xs.length * Pic.z α) = some (rows xs) → c ≠ b → getCells H c 1 = some [.hsl b (xs.length * Pic.z α) 0 (Pic.z α) true xs.length] →
  ∃ h', F none [.ifc tid (.hsl b (xs.length * Pic.z α) 0 (Pic.z α) true xs.length), .clo gid [.ptr c 1 0]] H = some (.tup [], h') ∧ getCells h' b (xs.length * Pic.z α) = some (rows (sortL lt xs)) ∧ Keep [b] H h'

theorem kslice_holds {α : Type} [Pic α] [FlatC α] [Inhabited α] {P : Program} {base : Env} {T : Nat → Option AFn} {fI fH fB fC fR fP fE fT fS fD fO fM fA fX fN fW : Nat} {hd : Value} (t : SortT T fI fH fB fC fR fP fE fT fS fD fO fM fA fX fN)
    (kn : ∀ (h : Heap) (l : Nat), l < 4611686018427387904 → base (2 * fN) none [nV l] h = some (uV (1 <<< bitsLen l), h)) (S : Scal α) (ag : Pic.ag α = true) (hs : base (2 * fW) = swapFn (Pic.z α) hd) {tid gid : Nat} {lt : α → α → Bool} (hlt : Go.Sort.SWO lt)
    {p : Int → Int → PtrL α → Option Bool} (hless : base (2 * gid) = pureFn true (FA fun a : Int × Int × PtrL α => p a.1 a.2.1 a.2.2))
    (hp : ∀ (l : List α) (i j : Int) (x y : α), get? l i = some x → get? l j = some y → p i j ⟨l⟩ = some (lt x y)) : kSlice tid gid lt (sliceFn P base T (c_sort_pdqsort_func fI fH fB fC fR fP fE fT fS) tid (Pic.z α) fW hd) := by
  intro xs H b c hlen hb hbc hc
  have hz0 := S.z0
  have hc' := gc_cells hc (by omega)
  by_cases h0 : xs.length = 0
  · obtain rfl := List.eq_nil_of_length_eq_zero h0
    exact ⟨H, by simp [sliceFn], hb, keep_refl⟩
  · have hb' := gc_cells hb (Nat.mul_pos (by omega) hz0)
    obtain ⟨h', e1, e2, e3⟩ := sort_rows (P := P) t kn S (gid := gid) (tid := tid) (lt := lt) hs (b := b) (c := c) (H0 := H) (xs := xs) (fun H A hA hC hsz i j hi hj => by
      have hA' : A.toList.length = xs.length := by simpa using hsz
      have hgA : getCells H b (xs.length * Pic.z α) = some (rows A.toList) := by
        unfold getCells
        rw [hA]
        simp only
        rw [if_pos (by rw [rows_len, hA'])]
      have hgC : getCells H c 1 = some [.hsl b (xs.length * Pic.z α) 0 (Pic.z α) true xs.length] := by
        unfold getCells
        rw [hC]
        rfl
      have g1 : get? A.toList (i : Int) = some A[i]! := by
        rw [get_nat, Array.getElem?_toList, Array.getElem?_eq_getElem (by omega), getElem!_pos A i (by omega)]
      have g2 : get? A.toList (j : Int) = some A[j]! := by
        rw [get_nat, Array.getElem?_toList, Array.getElem?_eq_getElem (by omega), getElem!_pos A j (by omega)]
      have hp := hp A.toList i j _ _ g1 g2
      rw [hless]
      have sn : snapA 9 false H [nV i, nV j, .ptr c 1 0] = some [.s (.int .i64 (i : Int)), .s (.int .i64 (j : Int)), .ip [.sl (Pic.z α) (A.toList.map enc)]] := by
        have s1 : snap 8 false H (.hsl b (xs.length * Pic.z α) 0 (Pic.z α) true xs.length) = some (.sl (Pic.z α) (A.toList.map enc)) := by
          rw [snap_hsl, if_neg h0, hgA, Option.bind_some, List.drop_zero, take_rows (by rw [rows_len, hA']; exact Nat.le_refl _), snapA_rowsF, Option.bind_some, mkRows_eq (α := α) rfl ag.symm hA'.symm]
        have s2 : snap 9 false H (.ptr c 1 0) = some (.ip [.sl (Pic.z α) (A.toList.map enc)]) := by
          rw [snap_ptr, hgC, Option.bind_some, if_pos (by simp), List.drop_zero, snapA_cons, s1, snapA_nil]
          rfl
        rw [snapA_cons, snapA_cons, snapA_cons, s2, snapA_nil]
        rfl
      rw [pure_at, if_pos rfl, sn, Option.bind_some, FA_def]
      have hdec : (decA [I.s (.int .i64 (i : Int)), I.s (.int .i64 (j : Int)), I.ip [I.sl (Pic.z α) (A.toList.map enc)]] : Option (Int × Int × PtrL α)) = some ((i : Int), (j : Int), ⟨A.toList⟩) := by
        exact decA_encA ((i : Int), (j : Int), (⟨A.toList⟩ : PtrL α))
      rw [hdec, Option.bind_some]
      simp only [hp]
      rfl) hb' hbc hc' hlen
    refine ⟨h', e1, ?_, e3⟩
    unfold getCells
    rw [e2]
    simp only
    rw [if_pos (by rw [rows_len, sortL_len hlt])]

/-- Where the sort's functions start from. -/
noncomputable def sortBase (fW z : Nat) (hd : Value) (pu : PEnv) : Env := fun c slot args h => if c = 2 * fW then swapFn z hd slot args h else mkEnv pu [] c slot args h
theorem sortBase_swap {fW z : Nat} {hd : Value} {pu : PEnv} : sortBase fW z hd pu (2 * fW) = swapFn z hd := by
  funext slot args h
  unfold sortBase
  rw [if_pos rfl]
theorem sortBase_at {fW z f : Nat} {hd : Value} {pu : PEnv} (hf : f ≠ fW) : sortBase fW z hd pu (2 * f) = mkEnv pu [] (2 * f) := by
  funext slot args h
  unfold sortBase
  rw [if_neg (by omega)]
theorem sortBase_ok {P : Program} {fW z : Nat} {hd : Value} {pu : PEnv} (hs : FunOK P fW (swapFn z hd)) (hp : ∀ p, p ∈ pu → PureOK P p.1 p.2.1 p.2.2) : EnvOK P (sortBase fW z hd pu) := by
  intro c slot args H v H' h
  unfold sortBase at h
  split at h
  · rename_i hc
    subst hc
    rw [Nat.mul_div_cancel_left fW (by decide)]
    exact hs slot args H v H' h
  · exact mkEnv_ok hp (fun p hp => by cases hp) c slot args H v H' h

/-- nextPowerOfTwo. -/
def nextF : List I → Option I
  | [.s (.int .i64 n)] => if 0 ≤ n ∧ n < 4611686018427387904 then some (.s (.int .u64 ((1 <<< bitsLen n.toNat : Nat) : Int))) else none
  | _ => none
theorem next_ok {P : Program} {f : FuncId} (hcall : callable P f = true) (h : ∀ (n : Nat), n < 4611686018427387904 → ∀ w, Calls P f #[.int .i64 n] w fun e w' => e = .returned (.int .u64 ((1 <<< bitsLen n : Nat) : Int)) ∧ w' = w) : PureOK P f true nextF := by
  refine ⟨hcall, ?_⟩
  intro args r hr Y w xs hY hl
  unfold nextF at hr
  split at hr
  case h_2 => cases hr
  rename_i n
  split at hr
  case isFalse => cases hr
  rename_i hn
  cases hr
  obtain ⟨n, rfl⟩ : ∃ m : Nat, n = (m : Int) := ⟨n.toNat, by omega⟩
  obtain rfl : xs = #[.int .i64 (n : Int)] := by
    apply Array.ext'
    generalize xs.toList = l at hl
    cases hl with
    | cons a b =>
      cases a
      cases b
      rfl
  refine (h n (by omega) w).mono ?_
  rintro e w' ⟨rfl, rfl⟩
  refine ⟨_, rfl, Below.refl _ _, .s rfl⟩
theorem nextF_at {l : Nat} (hl : l < 4611686018427387904) : nextF [.s (.int .i64 (l : Int))] = some (.s (.int .u64 ((1 <<< bitsLen l : Nat) : Int))) := by
  have e : nextF [.s (.int .i64 (l : Int))] = if 0 ≤ (l : Int) ∧ (l : Int) < 4611686018427387904 then some (.s (.int .u64 ((1 <<< bitsLen (l : Int).toNat : Nat) : Int))) else none := rfl
  rw [e, if_pos (by omega), Int.toNat_natCast]
theorem next_at {l : Nat} (hl : l < 4611686018427387904) (h : Heap) : pureFn true nextF none [nV l] h = some (uV (1 <<< bitsLen l), h) := by
  have sn : snapA 9 false h [nV l] = some [.s (.int .i64 (l : Int))] := by
    rw [snapA_cons, snapA_nil, snap_s]
    rfl
  rw [pure_at, if_pos rfl, sn, Option.bind_some, nextF_at hl, Option.map_some, ofI_s]
end Go.AM

set_option linter.unusedVariables false
set_option linter.unusedSimpArgs false
namespace Go.AM
open Pic (enc dec dec_enc dec_sub)
open PicA (encA decA decA_encA decA_sub)

/-! ### Maps whose keys are stamps -/
def skI (s : TStamp) : I := .agg [.s (.int .i64 s.time), .s (.int .i64 s.actor)]
def skL (s : TStamp) : List Value := [.int .i64 s.time, .int .i64 s.actor]
def idxK : List TStamp → TStamp → Option Nat
  | [], _ => none
  | c :: cs, k => if c = k then some 0 else (idxK cs k).map (· + 1)
def insK (ks : List TStamp) (k : TStamp) : List TStamp := match idxK ks k with
  | some _ => ks
  | none => ks ++ [k]
def insV {α : Type} (ks : List TStamp) (vs : List α) (k : TStamp) (x : α) : List α := match idxK ks k with
  | some j => vs.set j x
  | none => vs ++ [x]

theorem sk_keys (ks : List TStamp) : keysI true [.int .i64, .int .i64] (ks.map skI) = some (ks.map skL) := by
  have h : ∀ l : List TStamp, (l.map skI).mapM (keyI true) = some (l.map skL) := by
    intro l
    induction l with
    | nil => rfl
    | cons n l ih =>
      rw [List.map_cons, List.mapM_cons, ih]
      rfl
  unfold keysI
  rw [h]
  have h2 : (ks.map skL).all (fitsL [.int .i64, .int .i64]) = true := by
    rw [List.all_eq_true]
    intro x hx
    obtain ⟨n, _, rfl⟩ := List.mem_map.1 hx
    rfl
  exact if_pos h2
theorem eq_sk {a b : TStamp} : eqL (skL a) (skL b) = decide (b = a) := by
  cases a with
  | mk a1 a2 =>
    cases b with
    | mk b1 b2 =>
      simp only [skL, eqL, eqV, Bool.and_true, TStamp.mk.injEq]
      rw [← Bool.decide_and]
      apply decide_eq_decide.2
      omega
theorem hit_sk : ∀ (ks : List TStamp) (k : TStamp), hit (skL k) (ks.map skL) = idxK ks k
  | [], k => rfl
  | c :: cs, k => by
    rw [List.map_cons, idxK, ← hit_sk cs k]
    show (if eqL (skL k) (skL c) = true then _ else _) = _
    rw [eq_sk]
    simp only [decide_eq_true_eq]
theorem set_sk {ks : List TStamp} {vs : List V} {k : TStamp} {x : V} : setM true (skL k) x (ks.map skI) vs (idxK ks k) = .map ((insK ks k).map skI) (insV ks vs k x) := by
  unfold insK insV setM
  cases idxK ks k with
  | some j => rfl
  | none => simp [keyP, skI, skL]
theorem keyV_v {a b : Int} : keyV true (.agg [.i (iN a), .i (iN b)]) = some (skL ⟨a, b⟩) := rfl
theorem keyV_s {a b : Int} : keyV true (.agg [.i (.s (.int .i64 a)), .i (.s (.int .i64 b))]) = some (skL ⟨a, b⟩) := rfl
theorem keyV_i {a b : Int} : keyV true (.i (.agg [.s (.int .i64 a), .s (.int .i64 b)])) = some (skL ⟨a, b⟩) := rfl
theorem keyV_iN {a b : Int} : keyV true (.i (.agg [iN a, iN b])) = some (skL ⟨a, b⟩) := rfl
theorem fits_sk {s : TStamp} : fitsL [.int .i64, .int .i64] (skL s) = true := rfl
theorem idxK_lt : ∀ {ks : List TStamp} {k : TStamp} {j : Nat}, idxK ks k = some j → ks[j]? = some k
  | [], k, j, h => by cases h
  | c :: cs, k, j, h => by
    rw [idxK] at h
    split at h
    · cases h; rename_i e; rw [e]; rfl
    · obtain ⟨i, h1, rfl⟩ := Option.map_eq_some_iff.1 h
      rw [List.getElem?_cons_succ]
      exact idxK_lt h1
theorem idxK_none : ∀ {ks : List TStamp} {k : TStamp}, idxK ks k = none → k ∉ ks
  | [], k, _ => by simp
  | c :: cs, k, h => by
    rw [idxK] at h
    split at h
    · cases h
    · rename_i e
      have := idxK_none (Option.map_eq_none_iff.1 h)
      rw [List.mem_cons]
      rintro (e2 | h2)
      · exact e e2.symm
      · exact this h2
theorem idxK_mem {ks : List TStamp} {k : TStamp} (h : k ∈ ks) : ∃ j, idxK ks k = some j := by
  cases e : idxK ks k with
  | some j => exact ⟨j, rfl⟩
  | none => exact absurd h (idxK_none e)

/-! ### What a list is -/
structure TList where
  ops : List TLOp
  order : List TLOp
  gone : List TStamp
  place : List (TStamp × Int)
def goneI (g : List TStamp) : List I := g.map fun _ => .s (.bool true)
def placeI (p : List (TStamp × Int)) : List I := p.map fun q => .s (.int .i64 q.2)
def listI (t : TList) : I := .ip [enc t.ops, enc t.order, .im (t.gone.map skI) (goneI t.gone), .im ((t.place.map Prod.fst).map skI) (placeI t.place)]
def encLi : Option TList → I
  | none => .s (.pointer none)
  | some t => listI t
open Classical in
noncomputable def decMaps (g1 g2 p1 p2 : List I) : Option (List TStamp × List (TStamp × Int)) := if h : ∃ q : List TStamp × List (TStamp × Int), g1 = q.1.map skI ∧ g2 = goneI q.1 ∧ p1 = (q.2.map Prod.fst).map skI ∧ p2 = placeI q.2 then some h.choose else none
theorem skI_inj : ∀ {xs ys : List TStamp}, xs.map skI = ys.map skI → xs = ys
  | [], [], _ => rfl
  | [], y :: ys, h => by cases h
  | x :: xs, [], h => by cases h
  | ⟨a, b⟩ :: xs, ⟨c, d⟩ :: ys, h => by
    simp only [List.map_cons, List.cons.injEq, skI, I.agg.injEq, I.s.injEq, Value.int.injEq, true_and, and_true] at h
    rw [h.1.1, h.1.2, skI_inj h.2]
theorem placeI_inj : ∀ {xs ys : List (TStamp × Int)}, xs.map Prod.fst = ys.map Prod.fst → placeI xs = placeI ys → xs = ys
  | [], [], _, _ => rfl
  | [], y :: ys, h, _ => by cases h
  | x :: xs, [], h, _ => by cases h
  | ⟨a, b⟩ :: xs, ⟨c, d⟩ :: ys, h, h2 => by
    simp only [List.map_cons, List.cons.injEq, placeI, I.s.injEq, Value.int.injEq, true_and] at h h2
    rw [h.1, h2.1, placeI_inj h.2 h2.2]
theorem decMaps_enc (g : List TStamp) (p : List (TStamp × Int)) : decMaps (g.map skI) (goneI g) ((p.map Prod.fst).map skI) (placeI p) = some (g, p) := by
  have hx : ∃ q : List TStamp × List (TStamp × Int), g.map skI = q.1.map skI ∧ goneI g = goneI q.1 ∧ (p.map Prod.fst).map skI = (q.2.map Prod.fst).map skI ∧ placeI p = placeI q.2 := ⟨(g, p), rfl, rfl, rfl, rfl⟩
  unfold decMaps
  rw [dif_pos hx]
  obtain ⟨h1, h2, h3, h4⟩ := hx.choose_spec
  exact congrArg some (Prod.ext (skI_inj h1).symm (placeI_inj (skI_inj h3) h4).symm)
theorem decMaps_some {g1 g2 p1 p2 : List I} {g : List TStamp} {p : List (TStamp × Int)} (h : decMaps g1 g2 p1 p2 = some (g, p)) : g1 = g.map skI ∧ g2 = goneI g ∧ p1 = (p.map Prod.fst).map skI ∧ p2 = placeI p := by
  unfold decMaps at h
  split at h
  · rename_i hx
    have := hx.choose_spec
    rw [Option.some.inj h] at this
    exact this
  · cases h
noncomputable def decLi : I → Option (Option TList)
  | .s (.pointer none) => some none
  | .ip [x, y, .im g1 g2, .im p1 p2] => (decMaps g1 g2 p1 p2).bind fun q => (dec x).bind fun o => (dec y).map fun s => some ⟨o, s, q.1, q.2⟩
  | _ => none
noncomputable instance : Pic (Option TList) where
  z := 1
  ag := false
  enc := encLi
  dec := decLi
  dec_enc x := by
    cases x with
    | none => rfl
    | some t =>
      show decLi (listI t) = _
      simp only [listI, decLi]
      rw [decMaps_enc]
      simp [dec_enc]
  len x := by cases x <;> rfl
  pos := by decide
  one := .inr rfl
  row x := by cases x <;> rfl
  dec_sub x a h := by
    unfold decLi at h
    split at h
    · cases h; exact .refl _
    · obtain ⟨q, h1, h⟩ := Option.bind_eq_some_iff.1 h
      obtain ⟨n, h2, h⟩ := Option.bind_eq_some_iff.1 h
      obtain ⟨s, h3, rfl⟩ := Option.map_eq_some_iff.1 h
      obtain ⟨rfl, rfl, rfl, rfl⟩ := decMaps_some h1
      exact .ip (.cons (dec_sub _ _ h2) (.cons (dec_sub _ _ h3) (.cons (.refl _) (.cons (.refl _) .nil))))
    · cases h
end Go.AM

set_option linter.unusedVariables false
set_option linter.unusedSimpArgs false
namespace Go.AM

instance : Inhabited TLOp := ⟨⟨0, 0, ⟨0, 0⟩, ⟨0, 0⟩⟩⟩
def chOK (c : Int) : Bool := decide (0 ≤ c ∧ c ≤ 1114111 ∧ (c < 55296 ∨ 57343 < c))
def lopK (o : TLOp) : Bool := stOK o.id && (if o.kind = 1 then chOK o.char && ((stOK o.at_ && ltS o.at_ o.id) || decide (o.at_ = ⟨0, 0⟩)) else if o.kind = 2 then decide (o.char = 0) && (stOK o.at_ && ltS o.at_ o.id) else false)
/-- Who may have followers. -/
def initK : List TLOp → List TStamp → List (List TLOp) → List TStamp × List (List TLOp)
  | [], ks, ls => (ks, ls)
  | o :: l, ks, ls => if o.kind = 1 then initK l (insK ks o.id) (insV ks ls o.id []) else initK l ks ls
/-- Who follows whom, and who is gone; none: one stands behind nobody. -/
def fillK (ks : List TStamp) : List TLOp → List (List TLOp) → List TStamp → Option (List (List TLOp) × List TStamp)
  | [], ls, g => some (ls, g)
  | o :: l, ls, g => match idxK ks o.at_ with
    | none => none
    | some j => if o.kind = 1 then fillK ks l (ls.set j (ls.getD j [] ++ [o])) g else fillK ks l ls (insK g o.at_)
def kidsK (ks : List TStamp) (ls : List (List TLOp)) (k : TStamp) : List TLOp := match idxK ks k with
  | some j => ls.getD j []
  | none => []
def setP (p : List (TStamp × Int)) (k : TStamp) (n : Int) : List (TStamp × Int) := match idxK (p.map Prod.fst) k with
  | some j => p.set j (k, n)
  | none => p ++ [(k, n)]
/-- The walk with a stack; none: too far. -/
def walkK (ks : List TStamp) (ls : List (List TLOp)) : Nat → List TLOp → List TLOp → List (TStamp × Int) → Option (List TLOp × List (TStamp × Int))
  | 0, _, _, _ => none
  | n + 1, st, ord, pl => match st.getLast? with
    | none => some (ord, pl)
    | some o => if st.length + (kidsK ks ls o.id).length ≤ 1000000 ∧ ord.length ≤ 1000000 then walkK ks ls n (st.dropLast ++ kidsK ks ls o.id) (ord ++ [o]) (setP pl o.id (ord.length : Int)) else none
noncomputable def listM (x0 : List TLOp) : Option (T2 (Option TList) Int) :=
  if 2048 < x0.length then some ⟨none, 2⟩ else if x0.all lopK = false then some ⟨none, 1⟩ else
    match dedK TLOp.id none (sortL (ltK TLOp.id) x0) [] with
    | none => some ⟨none, 16⟩
    | some l => match fillK (initK l [⟨0, 0⟩] [[]]).1 l (initK l [⟨0, 0⟩] [[]]).2 [] with
      | none => some ⟨none, 5⟩
      | some (ls, g) => (fixP fun n => walkK (initK l [⟨0, 0⟩] [[]]).1 ls n (kidsK (initK l [⟨0, 0⟩] [[]]).1 ls ⟨0, 0⟩) [] []).map fun q => ⟨some ⟨l, q.1, g, q.2⟩, 0⟩
end Go.AM
