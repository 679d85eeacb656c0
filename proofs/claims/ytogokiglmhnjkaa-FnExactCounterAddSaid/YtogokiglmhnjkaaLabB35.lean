/- Functions that call themselves. No condition. -/
import Derived.Test.YtogokiglmhnjkaaLabB34
set_option linter.unusedVariables false
set_option linter.unusedSimpArgs false
namespace Go.AM
open Pic (enc dec dec_enc dec_sub)
open PicA (encA decA decA_encA decA_sub)

open Classical in
/-- What a function comes to with as much fuel as it takes. -/
noncomputable def fixP {β : Type} (F : Nat → Option β) : Option β := if h : ∃ n, (F n).isSome = true then F h.choose else none

theorem fixP_some {β : Type} {F : Nat → Option β} {b : β} (h : fixP F = some b) : ∃ n, F n = some b := by
  unfold fixP at h
  split at h
  · exact ⟨_, h⟩
  · cases h

/-- If more fuel never turns what has come. -/
theorem fixP_eq {β : Type} {F : Nat → Option β} {b : β} {n : Nat} (hm : ∀ n m b c, F n = some b → F m = some c → b = c) (h : F n = some b) : fixP F = some b := by
  have hex : ∃ n, (F n).isSome = true := ⟨n, by rw [h]; rfl⟩
  unfold fixP
  rw [dif_pos hex]
  obtain ⟨c, hc⟩ := Option.isSome_iff_exists.1 hex.choose_spec
  rw [hc, hm _ _ _ _ hc h]

open Classical in
/-- A function by its runs with any fuel, the one that is asked for if there is one. -/
noncomputable def unionF (F : Nat → Fun) (Q : List V → Heap → V × Heap → Prop) : Fun := fun slot args h =>
  if hx : ∃ p, (∃ n, F n slot args h = some p) ∧ Q args h p then some hx.choose else none

theorem unionF_some {F : Nat → Fun} {Q : List V → Heap → V × Heap → Prop} {slot : Option Nat} {args : List V} {h : Heap} {p : V × Heap} (hp : unionF F Q slot args h = some p) : (∃ n, F n slot args h = some p) ∧ Q args h p := by
  unfold unionF at hp
  split at hp
  · rename_i hx
    cases hp
    exact hx.choose_spec
  · cases hp

theorem unionF_has {F : Nat → Fun} {Q : List V → Heap → V × Heap → Prop} {slot : Option Nat} {args : List V} {h : Heap} {p : V × Heap} {n : Nat} (hp : F n slot args h = some p) (hq : Q args h p) : ∃ p, unionF F Q slot args h = some p ∧ Q args h p := by
  have hx : ∃ p, (∃ n, F n slot args h = some p) ∧ Q args h p := ⟨p, ⟨n, hp⟩, hq⟩
  refine ⟨hx.choose, ?_, hx.choose_spec.2⟩
  unfold unionF
  rw [dif_pos hx]

theorem unionF_ok {P : Program} {f : FuncId} {F : Nat → Fun} {Q : List V → Heap → V × Heap → Prop} (h : ∀ n, FunOK P f (F n)) : FunOK P f (unionF F Q) := by
  intro slot args H v H' hg
  obtain ⟨⟨n, hn⟩, _⟩ := unionF_some hg
  exact h n slot args H v H' hn

theorem encA_inj {α : Type} [PicA α] {x y : α} (h : encA x = encA y) : x = y := by
  have := congrArg (decA (α := α)) h
  rw [decA_encA, decA_encA] at this
  exact Option.some.inj this
end Go.AM
