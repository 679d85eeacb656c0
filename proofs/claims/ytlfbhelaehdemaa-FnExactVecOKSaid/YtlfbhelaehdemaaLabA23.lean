/- Environments of contracts of functions that change nothing. No condition. -/
import Derived.Test.YtlfbhelaehdemaaLabA22
set_option linter.unusedVariables false
set_option linter.unusedSimpArgs false
namespace Go.AM

abbrev PEnv := List (Nat × Bool × (List I → Option I))

def penv (l : PEnv) : Env := fun f slot args h => (l.lookup f).bind fun p => pureFn p.1 p.2 slot args h
def ppur (l : PEnv) : Nat → Bool := fun f => (l.lookup f).isSome

theorem lookup_mem {α : Type} {f : Nat} {g : α} : ∀ {l : List (Nat × α)}, l.lookup f = some g → (f, g) ∈ l
  | [], h => by simp at h
  | (k, u) :: l, h => by
    rw [List.lookup_cons] at h
    split at h
    · rename_i he
      cases h
      have : f = k := by simpa using he
      subst this
      simp
    · exact List.mem_cons_of_mem _ (lookup_mem h)

theorem penv_ok {P : Program} (l : PEnv) (hl : ∀ p, p ∈ l → PureOK P p.1 p.2.1 p.2.2) : EnvOK P (penv l) := by
  intro f slot args H v H' h
  unfold penv at h
  obtain ⟨g, h1, h2⟩ := Option.bind_eq_some_iff.1 h
  exact pureFn_ok (hl _ (lookup_mem h1)) slot args H v H' h2

theorem ppur_ok (l : PEnv) : ∀ f, ppur l f = true → PurEnv (penv l) f := by
  intro f h
  unfold ppur at h
  obtain ⟨g, hg⟩ := Option.isSome_iff_exists.1 h
  exact pureFn_pur (fresh := g.1) (F := g.2) (fun slot args H => by simp [penv, hg])

end Go.AM
