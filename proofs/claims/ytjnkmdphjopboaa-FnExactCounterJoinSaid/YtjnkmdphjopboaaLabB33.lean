/- Appending a list, as a cut of the walk. No condition. -/
import Derived.Test.YtjnkmdphjopboaaLabB32
set_option linter.unusedVariables false
set_option linter.unusedSimpArgs false
namespace Go.AM
open Pic (enc dec dec_enc dec_sub)

/-- Two strings as one. -/
def cat? (x y : ByteArray) : Option ByteArray := if ((x.size + y.size : Nat) : Int) ≤ 9223372036854775807 then some (x ++ y) else none
theorem pv_cat {x y : ByteArray} : pv (.ar .add) [.i (.s (.string x)), .i (.s (.string y))] = (cat? x y).map fun s => .i (.s (.string s)) := by
  rw [pv_sadd]
  unfold cat?
  split <;> rfl
def nums (xs : List U8) : List Int := xs.map U8.v
theorem nums_len {xs : List U8} : (nums xs).length = xs.length := List.length_map ..
theorem bytesOf_rows : ∀ {xs : List U8}, bytesOf (rows xs) = some (nums xs)
  | [] => rfl
  | x :: xs => by
    rw [rows_cons]
    show (bytesOf (rows xs)).map _ = _
    rw [bytesOf_rows (xs := xs)]
    rfl

theorem app_f {α : Type} [Pic α] {K : V × Heap → Prop} {h : Heap} {b g z y len n : Nat} {ag ag' : Bool} {xs ys v : List α} (F : Heap → Prop) (hF : F h) (hg : ∀ h, F h → getCells h b g = some (rows xs)) (hv : app? y xs ys = some v)
    (hz : z = Pic.z α) (hl : len = xs.length) (hn : n = ys.length) (hgz : g = len * z)
    (hK : ∀ h h', F h → Keep [b] h h' → getCells h' b (v.length * z) = some (rows v) → K (.hsl b (v.length * z) 0 z ag v.length, h')) : @WO _ (stepAppend none z ag y h (rows ys) n (.hsl b g 0 z ag' len)) ⟨K⟩ := by
  obtain ⟨hc, rfl, hlen⟩ := app_some hv
  subst hgz hl hn
  have hget := hg h hF
  rw [app_hsl, if_pos ⟨.inl rfl, rfl⟩, hget, Option.bind_some]
  by_cases h0 : ys.length = 0
  · rw [if_pos h0]
    obtain rfl := List.eq_nil_of_length_eq_zero h0
    refine ⟨_, rfl, ?_⟩
    have := hK h h hF keep_refl (by rw [List.append_nil]; exact hget)
    rwa [List.append_nil] at this
  · rw [if_neg h0, if_pos (by omega), if_pos rfl]
    refine ⟨_, rfl, ?_⟩
    have hb := gc_lt hget
    have e : xs.length * z + ys.length * z = (xs ++ ys).length * z := by rw [List.length_append, Nat.add_mul]
    have := hK h (h.set b (.cells (rows xs ++ rows ys))) hF (keep_set (.inl (by simp)) keep_refl) (by
      rw [gc_set_eq hb, ← rows_append, if_pos (by rw [rows_len, hz])])
    rw [e, ← List.length_append]
    exact this

section
variable {P : Program} {env : Env} {t : Nat → V} {h : Heap} {K : V → Heap → Prop}
theorem S_callV {c : Nat} {hs : List (Nat × Bool)} {args : List Operand} : @S P env ⟨.callV c hs args⟩ t h ⟨K⟩ = @WO _ (env c none (virtV hs h.length (args.map (ev t))) (h ++ List.replicate (nilsV (args.map (ev t))) .virt)) ⟨fun p => K p.1 p.2⟩ := by
  simp only [S, stepOp, evs_eq]
theorem S_appendV {z y : Nat} {ag : Bool} {x : Operand} : @S P env ⟨.appendV z ag y x⟩ t h ⟨K⟩ = @WO _ (srcCells h (ev t x)) ⟨fun ys => @WO _ (lenV (ev t x)) ⟨fun n =>
      (ys.all V.one = true ∧ ys.length = n * z) ∧ @WO _ (stepAppend none z ag y (h ++ [.virt]) ys n (.hsl h.length 0 0 z ag 0)) ⟨fun p => K p.1 p.2⟩⟩⟩ := by
  simp only [S, stepOp, ev_eq, WO_bind, WO_ite_none]
  repeat (first | (refine WO_ext fun _ => ?_) | simp only [S, stepOp, ev_eq, WO_bind, WO_ite_none])
end
end Go.AM
