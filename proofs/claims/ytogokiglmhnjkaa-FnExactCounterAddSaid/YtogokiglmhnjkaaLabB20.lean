/- From a call's contract on pictures to the row of a law. No condition. -/
import Derived.Test.YtogokiglmhnjkaaLabB19
import Derived.OpenShut
import Derived.Carry
import Derived.ChangeShapes
import Derived.RowKit
set_option linter.unusedVariables false
set_option linter.unusedSimpArgs false
namespace Go.AM
open Go.ChangeShapes Go.RowKit

inductive FitsA : List Sh → List I → Prop
  | nil : FitsA [] []
  | cons {s : Sh} {ss : List Sh} {x : I} {xs : List I} : Fits s x → FitsA ss xs → FitsA (s :: ss) (x :: xs)

section
variable {P : Program}

theorem value_of {t : TypeId} {n : Nat} {s : Sh} {W : World} {base : Nat} {v : Value} {x : I} {M : Nat → Prop} (hs : shOf P n t = some s) (hv : Value.okWide P W .any base t v) (hx : Fits s x) (hr : RL W M x.cells v.cells.toList) : RI W M x v := by
  have one : ∀ y : I, y.cells = [y] → (∀ cs, v ≠ .agg cs) → RL W M y.cells v.cells.toList → RI W M y v := by
    intro y hy hn h
    have : v.cells = #[v] := by
      cases v with
      | agg cs => exact absurd rfl (hn cs)
      | _ => rfl
    rw [hy, this] at h
    cases h with
    | cons a b => exact a
  cases n with
  | zero => simp [shOf] at hs
  | succ n =>
    simp only [shOf] at hs
    split at hs
    · rename_i hu
      cases hs
      cases hx
      refine one _ rfl (fun cs e => ?_) hr
      subst e
      simp [Value.okWide, Cell.okWide, Cell.ok, hu] at hv
    · rename_i hu
      cases hs
      cases hx
      refine one _ rfl (fun cs e => ?_) hr
      subst e
      simp [Value.okWide, Cell.okWide, Cell.ok, hu] at hv
    · rename_i hu
      cases hs
      cases hx
      refine one _ rfl (fun cs e => ?_) hr
      subst e
      simp [Value.okWide, Cell.okWide, Cell.ok, hu] at hv
    · rename_i e hu
      obtain ⟨s0, h1, hs⟩ := Option.bind_eq_some_iff.1 hs
      split at hs
      · cases hs
        cases hx
        refine one _ rfl (fun cs e => ?_) hr
        subst e
        simp [Value.okWide, Cell.okWide, Cell.ok, hu] at hv
      · cases hs
    · rename_i fs hu
      obtain ⟨s0, h1, hs⟩ := Option.bind_eq_some_iff.1 hs
      split at hs
      · cases hs
        cases hx
        simp only [Value.okWide, hu] at hv
        obtain ⟨cs, rfl, _⟩ := hv
        exact .agg hr
      · cases hs
    · cases hs

theorem args_of {H : Type} {enc : TypeId × Value → H} {W : World} {base n : Nat} : ∀ {ts : List TypeId} {vs : List Value} {ds : List (DataW H)} {ps : List MemPlace} {shs : List Sh}, DataW.TrodAll enc P W 0 (fun _ => true) true ts vs ds ps →
    ts.mapM (shOf P n) = some shs → (DataW.weightsEach P ts ds).all (· ≤ reachBytes) = true → (∀ (j : Nat) t v, ts[j]? = some t → vs[j]? = some v → Value.okWide P W .any base t v) → ∃ xs, FitsA shs xs ∧ RL W (fun _ => False) xs vs
  | [], vs, ds, ps, shs, h, hs, hw, hv => by
    obtain ⟨rfl, rfl, rfl⟩ := trodAll_nil h
    simp at hs
    subst hs
    exact ⟨[], .nil, .nil⟩
  | t :: ts, vs, ds, ps, shs, h, hs, hw, hv => by
    obtain ⟨v, vs', d, ds', p, q, rfl, rfl, rfl, h1, h2⟩ := trodAll_cons h
    simp only [List.mapM_cons, Option.bind_eq_bind] at hs
    obtain ⟨s, a1, hs⟩ := Option.bind_eq_some_iff.1 hs
    obtain ⟨ss', a2, a3⟩ := Option.bind_eq_some_iff.1 hs
    simp at a3
    subst a3
    simp only [DataW.weightsEach, List.all_append, Bool.and_eq_true] at hw
    obtain ⟨fuel, hf⟩ := h1
    obtain ⟨x, f1, r1⟩ := trod_fits n t s a1 fuel _ d p hf hw.1
    obtain ⟨xs, f2, r2⟩ := args_of h2 a2 hw.2 (fun j t v ht hv' => hv (j + 1) t v (by simpa using ht) (by simpa using hv'))
    exact ⟨x :: xs, .cons f1 f2, .cons (value_of a1 (hv 0 t v rfl rfl) f1 r1) r2⟩

theorem trodAll_lt {H : Type} {enc : TypeId × Value → H} {W : World} : ∀ {ts : List TypeId} {vs : List Value} {ds : List (DataW H)} {ps : List MemPlace}, DataW.TrodAll enc P W 0 (fun _ => true) true ts vs ds ps → ∀ x ∈ ps, x.block < W.heap.size
  | [], vs, ds, ps, h, x, hx => by
    obtain ⟨rfl, rfl, rfl⟩ := trodAll_nil h
    simp at hx
  | t :: ts, vs, ds, ps, h, x, hx => by
    obtain ⟨v, vs', d, ds', p, q, rfl, rfl, rfl, h1, h2⟩ := trodAll_cons h
    rcases List.mem_append.1 hx with hx | hx
    · obtain ⟨m, hm⟩ := h1
      exact DataW.trod_lt m _ _ _ hm x hx
    · exact trodAll_lt h2 x hx

theorem trodAll_below {H : Type} {enc : TypeId × Value → H} {W W' : World} (hl : laidOutB P = true) (hb : Below W.heap.size W W') : ∀ {ts : List TypeId} {vs : List Value} {ds : List (DataW H)} {ps : List MemPlace},
    ts.all (fun t => P.readableRec t && decide (t < P.types.size)) = true → DataW.TrodAll enc P W 0 (fun _ => true) true ts vs ds ps → DataW.TrodAll enc P W' 0 (fun b => decide (b < W.heap.size)) true ts vs ds ps
  | [], vs, ds, ps, ht, h => by
    obtain ⟨rfl, rfl, rfl⟩ := trodAll_nil h
    rfl
  | t :: ts, vs, ds, ps, ht, h => by
    have hlt := trodAll_lt h
    obtain ⟨v, vs', d, ds', p, q, rfl, rfl, rfl, h1, h2⟩ := trodAll_cons h
    simp only [List.all_cons, Bool.and_eq_true, decide_eq_true_eq] at ht
    exact ⟨p, q, Below.trod hl ht.1.1 ht.1.2 h1 hb (fun x hx => hlt x (by simp [hx])), trodAll_below hl hb (by simpa using ht.2) h2, rfl⟩

theorem trodAll_count {H : Type} {enc : TypeId × Value → H} {W : World} {base : Nat} {spare : Nat → Bool} {held : Bool} : ∀ {ts : List TypeId} {vs : List Value} {ds : List (DataW H)} {ps : List MemPlace}, DataW.TrodAll enc P W base spare held ts vs ds ps → ds.length = ts.length
  | [], vs, ds, ps, h => by
    obtain ⟨rfl, rfl, rfl⟩ := trodAll_nil h
    rfl
  | t :: ts, vs, ds, ps, h => by
    obtain ⟨v, vs', d, ds', p, q, rfl, rfl, rfl, h1, h2⟩ := trodAll_cons h
    simp [trodAll_count h2]

/-- What a law owes: true, whatever it is handed; nothing that was there turns. -/
def LawOK (P : Program) (f : FuncId) (shs : List Sh) : Prop := ∀ (xs : List I), FitsA shs xs → ∀ (w : World) (vs : Array Value), RL w (fun _ => False) xs vs.toList → Calls P f vs w fun e w' => e = .returned (.bool true) ∧ Below w.heap.size w w'

theorem law_contract {H : Type} {enc : TypeId × Value → H} {f : FuncId} {fn : Func} {s : ChangeSpec} {n : Nat} {shs : List Sh} {tb : TypeId} (hl : laidOutB P = true) (hvars : s.vars = [])
    (hspec : ∀ ds : List (DataW H), ds.length = fn.params.size → s.fn H ds = { results := [.lit (.bool true)], args := ds }) (hres : fn.resultTypes.toList = [tb]) (htb : P.underlying tb = some .bool)
    (hpar : fn.params.toList.all (fun t => P.readableRec t && decide (t < P.types.size)) = true) (hsh : fn.params.toList.mapM (shOf P n) = some shs) (hlaw : LawOK P f shs)
    (W : World) (base : Nat) (args : Array Value) (ds gs : List (DataW H)) (before : List MemPlace)
    (hval : ∀ (j : Nat) t v, fn.params[j]? = some t → args[j]? = some v → Value.okWide P W .any base t v)
    (hW : DataW.Whole enc P fn.params.toList s.vars false W args.toList ds gs before)
    (hsz : (DataW.weightsEach P (fn.params.toList ++ s.plain.varTypes P) (ds ++ gs)).all (· ≤ reachBytes) = true) :
    Calls P f args W fun e W' => ∃ v, e = .returned v ∧ s.post enc P fn false true false false W args v W' := by
  have hW' := hW
  obtain ⟨p, q, hA, hV, rfl, hfz, hnd⟩ := hW
  rw [hvars] at hV
  obtain ⟨rfl, rfl⟩ := trodVars_none hV
  have hcount := trodAll_count hA
  have hw : (DataW.weightsEach P fn.params.toList ds).all (· ≤ reachBytes) = true := by
    refine List.all_eq_true.2 fun x hx => List.all_eq_true.1 hsz x ?_
    have : ∀ (ts : List TypeId) (ds : List (DataW H)) (us : List TypeId) (es : List (DataW H)), x ∈ DataW.weightsEach P ts ds → ds.length = ts.length → x ∈ DataW.weightsEach P (ts ++ us) (ds ++ es) := by
      intro ts
      induction ts with
      | nil => intro ds us es h hlen; cases ds <;> simp [DataW.weightsEach] at h
      | cons t ts ih =>
        intro ds us es h hlen
        cases ds with
        | nil => simp [DataW.weightsEach] at h
        | cons d ds =>
          simp only [DataW.weightsEach, List.mem_append, List.cons_append] at h ⊢
          rcases h with h | h
          · exact .inl h
          · exact .inr (ih ds us es h (by simpa using hlen))
    exact this _ _ _ _ hx hcount
  obtain ⟨xs, f1, r1⟩ := args_of hA hsh hw (fun j t v ht hv => hval j t v (by simpa using ht) (by simpa using hv))
  refine (hlaw xs f1 W args r1).mono ?_
  rintro e W' ⟨rfl, bel⟩
  have hs := hspec ds (by simpa using hcount)
  refine ⟨_, rfl, ds, [], _, [], p, [], hW', ?_, ?_, ?_, bel.frame _, fun h => by cases h⟩
  · rw [List.append_nil, hs, hres]
    have : fn.resultTypes.size = 1 := by rw [← Array.length_toList, hres]; rfl
    rw [this]
    exact trodAll_mk1 (shut_bool htb true)
  · rw [List.append_nil, hs]
    exact trodAll_below hl bel hpar hA
  · rw [List.append_nil, hs, hvars]
    rfl

end
end Go.AM
