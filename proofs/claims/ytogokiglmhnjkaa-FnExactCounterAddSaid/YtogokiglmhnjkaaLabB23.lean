/- Environments of contracts; laws out of their runs. No condition. -/
import Derived.Test.YtogokiglmhnjkaaLabB20
set_option linter.unusedVariables false
set_option linter.unusedSimpArgs false
namespace Go.AM

abbrev PEnv := List (Nat × Bool × (List I → Option I))
abbrev OEnv := List (Nat × Fun)

/-- Even codes: functions that change nothing; odd ones: as they run. -/
def mkEnv (pu : PEnv) (ow : OEnv) : Env := fun c slot args h =>
  if c % 2 = 0 then (pu.lookup (c / 2)).bind fun p => pureFn p.1 p.2 slot args h else (ow.lookup (c / 2)).bind fun g => g slot args h

def evens : Nat → Bool := fun c => c % 2 == 0

theorem lookup_mem {α : Type} {f : Nat} {g : α} : ∀ {l : List (Nat × α)}, l.lookup f = some g → (f, g) ∈ l
  | [], h => by simp at h
  | (k, u) :: l, h => by
    rw [List.lookup_cons] at h
    split at h
    · rename_i he
      cases h
      have : f = k := by simpa using he
      subst this
      simp
    · exact List.mem_cons_of_mem _ (lookup_mem h)

theorem mkEnv_ok {P : Program} {pu : PEnv} {ow : OEnv} (hp : ∀ p, p ∈ pu → PureOK P p.1 p.2.1 p.2.2) (ho : ∀ p, p ∈ ow → FunOK P p.1 p.2) : EnvOK P (mkEnv pu ow) := by
  intro c slot args H v H' h
  unfold mkEnv at h
  split at h
  · obtain ⟨g, h1, h2⟩ := Option.bind_eq_some_iff.1 h
    exact pureFn_ok (hp _ (lookup_mem h1)) slot args H v H' h2
  · obtain ⟨g, h1, h2⟩ := Option.bind_eq_some_iff.1 h
    exact ho _ (lookup_mem h1) slot args H v H' h2

/-- It lays blocks behind all others, and does no more. -/
def Appends (F : Fun) : Prop := ∀ slot args h v h', F slot args h = some (v, h') → ∃ l, h' = h ++ l ∧ (∀ s, s ∈ l → s ≠ .free) ∧ ∀ h2, h2.length = h.length → Up h h2 → F slot args h2 = some (v, h2 ++ l)

theorem move_used {n : Nat} {s : Slot} : Slot.move n s ≠ .free := by
  cases s <;> simp only [Slot.move] <;> (try split) <;> (intro e; cases e)

theorem ownFn_app {P : Program} {env : Env} {A : AFn} : Appends (ownFn P env A) := by
  intro slot args h v h' he
  unfold ownFn at he
  obtain ⟨as, h1, he⟩ := Option.bind_eq_some_iff.1 he
  obtain ⟨p, h2, he⟩ := Option.bind_eq_some_iff.1 he
  split at he
  · rename_i hh
    cases he
    refine ⟨_, rfl, ?_, ?_⟩
    · intro s hs
      obtain ⟨s', _, rfl⟩ := List.mem_map.1 hs
      exact move_used
    · intro h3 hl u
      unfold ownFn
      rw [mapM_imp (snap_up u 9) h1, Option.bind_some, h2, Option.bind_some, if_pos hh, hl]
  · cases he

/-- Whose place in a region may be open. -/
def opens (ap : Nat → Bool) : Nat → Bool := fun c => c % 2 == 0 || ap (c / 2)

theorem mkEnv_pur (pu : PEnv) (ow : OEnv) {ap : Nat → Bool} (ha : ∀ p, p ∈ ow → ap p.1 = true → Appends p.2) : ∀ c, opens ap c = true → PurEnv (mkEnv pu ow) c := by
  intro c h
  by_cases hc : c % 2 = 0
  case neg =>
    refine ⟨fun h0 => absurd h0 hc, fun _ slot args H v H' he => ?_⟩
    unfold mkEnv at he
    rw [if_neg hc] at he
    obtain ⟨g, h1, h2⟩ := Option.bind_eq_some_iff.1 he
    have hap : ap (c / 2) = true := by
      simp only [opens, Bool.or_eq_true, beq_iff_eq] at h
      rcases h with h | h
      · exact absurd h hc
      · exact h
    obtain ⟨l, e1, e2, e3⟩ := ha _ (lookup_mem h1) hap slot args H v H' h2
    refine ⟨l, e1, e2, fun h3 hl u => ?_⟩
    unfold mkEnv
    rw [if_neg hc, h1]
    exact e3 h3 hl u
  refine ⟨fun _ => ?_, fun h1 => by omega⟩
  intro slot args H v H' he
  unfold mkEnv at he ⊢
  rw [if_pos hc] at he
  obtain ⟨g, h1, h2⟩ := Option.bind_eq_some_iff.1 he
  have := pureFn_pur (env := fun _ => pureFn g.1 g.2) (f := c) (fresh := g.1) (F := g.2) (fun _ _ _ => rfl) slot args H v H' h2
  refine ⟨this.1, fun h3 u => ?_⟩
  simp only [hc, if_true, h1, Option.bind_some]
  exact this.2 h3 u

theorem mkEnv_pure {pu : PEnv} {ow : OEnv} {f : Nat} {g : Bool × (List I → Option I)} (h : pu.lookup f = some g) : mkEnv pu ow (2 * f) = pureFn g.1 g.2 := by
  funext slot args H
  unfold mkEnv
  rw [if_pos (by omega), show 2 * f / 2 = f from by omega, h]
  rfl

theorem mkEnv_at {pu : PEnv} {ow : OEnv} {f : Nat} {fr : Bool} {F : List I → Option I} (h : pu.lookup f = some (fr, F)) : mkEnv pu ow (2 * f) = pureFn fr F := mkEnv_pure (g := (fr, F)) h

theorem mkEnv_own {pu : PEnv} {ow : OEnv} {f : Nat} {g : Fun} (h : ow.lookup f = some g) : mkEnv pu ow (2 * f + 1) = g := by
  funext slot args H
  unfold mkEnv
  rw [if_neg (by omega), show (2 * f + 1) / 2 = f from by omega, h]
  rfl

/-- As it runs. -/
noncomputable def runIn (P : Program) (env : Env) (A : AFn) : Fun := fun _ args H => runFn P env A args H

section
variable {P : Program} {env : Env} {pur : Nat → Bool} {md : Modes}

theorem runIn_ok {f : FuncId} {A : AFn} (hE : EnvOK P env) (hpur : ∀ f, pur f = true → PurEnv env f) (hcall : callable P f = true) (hc : compFn P pur md f = some A) : FunOK P f (runIn P env A) := by
  intro slot args H v H' hg
  exact ⟨hcall, fn_ok hE hpur hc hg⟩

/-- A law, out of its run. -/
theorem law_of_run {f : FuncId} {A : AFn} {shs : List Sh} (hE : EnvOK P env) (hpur : ∀ f, pur f = true → PurEnv env f) (hc : compFn P pur md f = some A)
    (hrun : ∀ xs, FitsA shs xs → R P env A (xs.map ofI) [] fun v _ => v = .i (iB true)) : LawOK P f shs := by
  intro xs hx w vs hl
  obtain ⟨⟨v, H'⟩, h1, h2⟩ := hrun xs hx
  simp only at h2
  subst h2
  have hS : SimH w.heap.size (fun _ => False) w [] [] := ⟨rfl, Nat.le_refl _, fun k hk => hk.elim, fun b s hb => by simp at hb, fun b b' s s' k hb => by simp at hb⟩
  have hl2 : RVL w w.heap.size (Mof (fun _ => False) [] []) [] [] (xs.map ofI) vs.toList := by
    refine RL.ofI (hl.weaken ?_)
    rintro k (hk | ⟨b, s, hb, _⟩)
    · exact hk
    · simp at hb
  refine (fn_ok hE hpur hc h1 w.heap.size _ w [] vs hS hl2).mono ?_
  rintro e w' ⟨x, G', rfl, hE', hS', hv⟩
  refine ⟨?_, ⟨hE'.os, hE'.tape, hE'.output, hE'.size, fun k hk => hE'.keep k hk ?_⟩⟩
  · cases hv with
    | i hi => cases hi; rfl
  · rintro ⟨b, s, hb, _⟩
    simp at hb

end
end Go.AM
