/- Contracts of functions that change nothing: how they are shown, and how a caller uses them; laws. No condition. -/
import Derived.Test.YtlfbhelaehdemaaLabA21
set_option linter.unusedVariables false
set_option linter.unusedSimpArgs false
namespace Go.AM

abbrev iN (n : Int) : I := .s (.int .i64 n)
abbrev iB (b : Bool) : I := .s (.bool b)
abbrev iS (s : ByteArray) : I := .s (.string s)

/-- The run of a function shows what F says, whenever F says anything. -/
def Does (P : Program) (env : Env) (A : AFn) (fresh : Bool) (F : List I → Option I) : Prop :=
  ∀ args r, F args = some r → R P env A (args.map (.i false)) [] fun v H' => snap 9 fresh H' v = some r

section
variable {P : Program} {env : Env} {pur : Nat → Bool}

theorem Does.ok {f : FuncId} {fresh : Bool} {A : AFn} {F : List I → Option I} (hd : Does P env A fresh F) (hE : EnvOK P env) (hpur : ∀ f, pur f = true → PurEnv env f) (hcall : callable P f = true) (hc : compFn P pur f = some A) : PureOK P f fresh F := by
  refine pure_of_fn hE hpur hcall hc fun args r hr => ?_
  obtain ⟨⟨v, H'⟩, h1, h2⟩ := hd args r hr
  exact ⟨v, H', h1, h2⟩

def snapA (n : Nat) (f : Bool) (h : Heap) (l : List V) : Option (List I) := l.mapM (snap n f h)

variable {h : Heap} {n : Nat} {f g : Bool}
theorem snapA_nil : snapA n f h [] = some [] := rfl
theorem snapA_cons {v : V} {l : List V} : snapA n f h (v :: l) = (snap n f h v).bind fun x => (snapA n f h l).map fun xs => x :: xs := by
  simp only [snapA, List.mapM_cons, Option.bind_eq_bind]
  cases snap n f h v with
  | none => rfl
  | some x =>
    simp only [Option.bind_some]
    cases l.mapM (snap n f h) <;> rfl

theorem snap_i {x : I} : snap (n + 1) false h (.i g x) = some x := by simp [snap]
theorem snap_it {x : I} : snap (n + 1) f h (.i true x) = some x := by simp [snap]
theorem snap_s {x : Value} : snap (n + 1) f h (.i g (.s x)) = some (.s x) := by simp [snap, flat]
theorem snap_agg {cs : List V} : snap (n + 1) f h (.agg cs) = (snapA n f h cs).map .agg := rfl
theorem snap_tup {cs : List V} : snap (n + 1) f h (.tup cs) = (snapA n f h cs).map .tup := rfl

theorem pure_at {fresh : Bool} {F : List I → Option I} {args : List V} {H : Heap} : pureFn fresh F none args H = ((snapA 9 false (if fresh then H else []) args).bind F).map fun r => (.i fresh r, H) := rfl

theorem map_bind_some {α β : Type} {o : Option α} {f : α → β} : (o.map f) = o.bind fun x => some (f x) := by cases o <;> rfl
theorem bind_some {α β : Type} {x : α} {f : α → Option β} : (some x).bind f = f x := rfl
theorem map_some {α β : Type} {x : α} {f : α → β} : (some x).map f = some (f x) := rfl

/-- A law, out of its run. -/
theorem law_of_run {f : FuncId} {A : AFn} {shs : List Sh} (hE : EnvOK P env) (hpur : ∀ f, pur f = true → PurEnv env f) (hc : compFn P pur f = some A)
    (hrun : ∀ xs, FitsA shs xs → R P env A (xs.map (.i false)) [] fun v _ => ∃ g, v = .i g (iB true)) : LawOK P f shs := by
  intro xs hx w vs hl
  obtain ⟨⟨v, H'⟩, h1, g, h2⟩ := hrun xs hx
  simp only at h2
  subst h2
  have hS : SimH w.heap.size (fun _ => False) w [] [] := ⟨rfl, Nat.le_refl _, fun k hk => hk.elim, fun b s hb => by simp at hb, fun b b' s s' k hb => by simp at hb⟩
  have hl2 : RVL w w.heap.size (Mof (fun _ => False) [] []) [] [] (xs.map (.i false)) vs.toList := by
    refine RL.toV (hl.weaken ?_)
    rintro k (hk | ⟨hk, _⟩)
    · rcases hk with hk | ⟨b, s, hb, _⟩
      · exact hk
      · simp at hb
    · cases hk
  refine (fn_ok hE hpur hc h1 w.heap.size _ w [] vs hS hl2).mono ?_
  rintro e w' ⟨x, G', rfl, hE', hS', hv⟩
  refine ⟨?_, ⟨hE'.os, hE'.tape, hE'.output, hE'.size, fun k hk => hE'.keep k hk ?_⟩⟩
  · cases hv with
    | i hi => cases hi; rfl
  · rintro ⟨b, s, hb, _⟩
    simp at hb

end
end Go.AM
