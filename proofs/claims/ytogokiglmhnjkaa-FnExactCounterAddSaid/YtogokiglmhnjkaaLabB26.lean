/- From shapes to typed data. No condition. -/
import Derived.Test.YtogokiglmhnjkaaLabB25
set_option linter.unusedVariables false
set_option linter.unusedSimpArgs false
namespace Go.AM
open Pic (enc dec dec_enc dec_sub)

abbrev InI64 (n : Int) : Prop := -9223372036854775808 ≤ n ∧ n ≤ 9223372036854775807

theorem fit_int {x : I} (h : Fits (.int .i64) x) : ∃ n : Int, x = iN n ∧ InI64 n := by
  cases h with
  | int n hw =>
    refine ⟨n, rfl, ?_⟩
    simp [Lit.wf, IntKind.min, IntKind.max, IntKind.bits, IntKind.signed] at hw
    exact ⟨by omega, by omega⟩
theorem fit_bool {x : I} (h : Fits .bool x) : ∃ b : Bool, x = iB b := by
  cases h with
  | bool b => exact ⟨b, rfl⟩
theorem fit_str {x : I} (h : Fits .str x) : ∃ s : ByteArray, x = iS s ∧ s.size ≤ reachBytes := by
  cases h with
  | str s hs => exact ⟨s, rfl, hs⟩

theorem fit_list {α : Type} [Pic α] {e : Sh} {ok : α → Prop} (he : ∀ x, Fits e x → ∃ a, x = enc a ∧ ok a) : ∀ (xs : List I), (∀ x, x ∈ xs → Fits e x) → ∃ l : List α, xs = l.map enc ∧ ∀ a, a ∈ l → ok a
  | [], _ => ⟨[], rfl, by simp⟩
  | x :: xs, h => by
    obtain ⟨a, rfl, ha⟩ := he x (h x (by simp))
    obtain ⟨l, rfl, hl⟩ := fit_list he xs (fun y hy => h y (by simp [hy]))
    refine ⟨a :: l, rfl, ?_⟩
    intro b hb
    rcases List.mem_cons.1 hb with rfl | hb
    · exact ha
    · exact hl b hb

theorem fit_sl {α : Type} [Pic α] {b : Nat} {e : Sh} {ok : α → Prop} (hz : Sh.size e = Pic.z α) (he : ∀ x, Fits e x → ∃ a, x = enc a ∧ ok a) {x : I} (h : Fits (.sl b e) x) : ∃ l : List α, x = enc l ∧ l.length * b ≤ reachBytes ∧ ∀ a, a ∈ l → ok a := by
  cases h with
  | sl hb hx =>
    obtain ⟨l, rfl, hl⟩ := fit_list he _ hx
    refine ⟨l, by rw [hz]; rfl, by simpa using hb, hl⟩

theorem reach_eq : reachBytes = 140737488351232 := rfl

end Go.AM
