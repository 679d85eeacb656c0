/- Contracts of functions: how they are shown, and how a caller uses them. No condition. -/
import Derived.Test.YtogokiglmhnjkaaLabB21
set_option linter.unusedVariables false
set_option linter.unusedSimpArgs false
namespace Go.AM

abbrev iN (n : Int) : I := .s (.int .i64 n)
abbrev iB (b : Bool) : I := .s (.bool b)
abbrev iS (s : ByteArray) : I := .s (.string s)

section
variable {P : Program} {env : Env} {h : Heap} {n : Nat} {f : Bool}

def snapA (n : Nat) (f : Bool) (h : Heap) (l : List V) : Option (List I) := l.mapM (snap n f h)

theorem snapA_nil : snapA n f h [] = some [] := rfl
theorem snapA_cons {v : V} {l : List V} : snapA n f h (v :: l) = (snap n f h v).bind fun x => (snapA n f h l).map fun xs => x :: xs := by
  simp only [snapA, List.mapM_cons, Option.bind_eq_bind]
  cases snap n f h v with
  | none => rfl
  | some x =>
    simp only [Option.bind_some]
    cases l.mapM (snap n f h) <;> rfl
theorem snapA_append : ∀ {l m : List V}, snapA n f h (l ++ m) = (snapA n f h l).bind fun x => (snapA n f h m).map fun y => x ++ y
  | [], m => by simp [snapA_nil]
  | v :: l, m => by
    simp only [List.cons_append, snapA_cons, snapA_append (l := l)]
    cases snap n f h v <;> simp
    cases snapA n f h l <;> simp
    cases snapA n f h m <;> simp

theorem snap_i {x : I} : snap (n + 1) false h (.i x) = some x := by simp [snap]
theorem snap_s {x : Value} : snap (n + 1) f h (.i (.s x)) = some (.s x) := by simp [snap, flat]
theorem snap_sl0 {z : Nat} : snap (n + 1) f h (.i (.sl z [])) = some (.sl z []) := by simp [snap, flat]
theorem snap_agg {cs : List V} : snap (n + 1) f h (.agg cs) = (snapA n f h cs).map .agg := rfl
theorem snap_tup {cs : List V} : snap (n + 1) f h (.tup cs) = (snapA n f h cs).map .tup := rfl
theorem snap_hsl {b g off z len : Nat} {ag : Bool} : snap (n + 1) f h (.hsl b g off z ag len) = if len = 0 then some (.sl z []) else (getCells h b g).bind fun cs => (snapA n f h ((cs.drop off).take (len * z))).bind (mkRows z ag len) := rfl
theorem snap_ptr {b g off : Nat} : snap (n + 1) f h (.ptr b g off) = (getCells h b g).bind fun cs => if off < cs.length then (snapA n f h (cs.drop off)).map .ip else none := rfl

theorem snapA_pics {xs : List I} : snapA (n + 1) false h (xs.map .i) = some xs := by
  induction xs with
  | nil => rfl
  | cons x xs ih => rw [List.map_cons, snapA_cons, snap_i, ih]; rfl

theorem pure_at {fresh : Bool} {F : List I → Option I} {args : List V} {H : Heap} : pureFn fresh F none args H = ((snapA 9 false (if fresh then H else []) args).bind F).map fun r => (ofI r, H) := rfl

theorem map_bind_some {α β : Type} {o : Option α} {f : α → β} : (o.map f) = o.bind fun x => some (f x) := by cases o <;> rfl
theorem bind_some {α β : Type} {x : α} {f : α → Option β} : (some x).bind f = f x := rfl
theorem map_some {α β : Type} {x : α} {f : α → β} : (some x).map f = some (f x) := rfl
theorem ofI_s {x : Value} : ofI (.s x) = .i (.s x) := rfl
theorem ofI_sl {z : Nat} {xs : List I} : ofI (.sl z xs) = .i (.sl z xs) := rfl
theorem ofI_ip {xs : List I} : ofI (.ip xs) = .i (.ip xs) := rfl
theorem ofI_im {ks xs : List I} : ofI (.im ks xs) = .i (.im ks xs) := rfl
theorem ofI_agg {xs : List I} : ofI (.agg xs) = .agg (xs.map .i) := rfl
theorem ofI_tup {xs : List I} : ofI (.tup xs) = .tup (xs.map ofI1) := rfl
theorem ofI1_s {x : Value} : ofI1 (.s x) = .i (.s x) := rfl
theorem ofI1_sl {z : Nat} {xs : List I} : ofI1 (.sl z xs) = .i (.sl z xs) := rfl
theorem ofI1_ip {xs : List I} : ofI1 (.ip xs) = .i (.ip xs) := rfl
theorem ofI1_im {ks xs : List I} : ofI1 (.im ks xs) = .i (.im ks xs) := rfl
theorem ofI1_agg {xs : List I} : ofI1 (.agg xs) = .agg (xs.map .i) := rfl

/-! ### What a function hands over -/

def snapFL (f : V → Option (I × List Nat)) : List V → Option (List I × List Nat)
  | [] => some ([], [])
  | v :: vs => (f v).bind fun p => (snapFL f vs).map fun q => (p.1 :: q.1, p.2 ++ q.2)

/-- What a value shows, all of it in blocks of the function's own, and which those are. -/
def snapF : Nat → Heap → V → Option (I × List Nat)
  | 0, _, _ => none
  | n + 1, h, v => match v with
    | .i x => if flat x = true then some (x, []) else none
    | .agg cs => (snapFL (snapF n h) cs).map fun p => (.agg p.1, p.2)
    | .tup cs => (snapFL (snapF n h) cs).map fun p => (.tup p.1, p.2)
    | .hsl b g off z ag len => if len = 0 then some (.sl z [], []) else if off = 0 ∧ len * z = g then
        (getCells h b g).bind fun cs => if cs.all V.good = true then (snapFL (snapF n h) cs).bind fun p => (mkRows z ag len p.1).map fun r => (r, b :: p.2) else none else none
    | _ => none

theorem snapFL_snap {f : V → Option (I × List Nat)} {g : V → Option I} (hfg : ∀ v p, f v = some p → g v = some p.1) : ∀ {l : List V} {p : List I × List Nat}, snapFL f l = some p → l.mapM g = some p.1
  | [], p, h => by simp [snapFL] at h; subst h; rfl
  | v :: l, p, h => by
    simp only [snapFL] at h
    obtain ⟨u, h1, h⟩ := Option.bind_eq_some_iff.1 h
    obtain ⟨q, h2, rfl⟩ := Option.map_eq_some_iff.1 h
    simp only [List.mapM_cons, Option.bind_eq_bind]
    rw [hfg v u h1, Option.bind_some, snapFL_snap hfg h2]
    rfl

theorem snapFL_len {f : V → Option (I × List Nat)} : ∀ {l : List V} {p : List I × List Nat}, snapFL f l = some p → p.1.length = l.length
  | [], p, h => by simp [snapFL] at h; subst h; rfl
  | v :: l, p, h => by
    simp only [snapFL] at h
    obtain ⟨u, h1, h⟩ := Option.bind_eq_some_iff.1 h
    obtain ⟨q, h2, rfl⟩ := Option.map_eq_some_iff.1 h
    simp [snapFL_len h2]

theorem snapF_snap : ∀ (n : Nat) {v : V} {p : I × List Nat}, snapF n h v = some p → snap n f h v = some p.1
  | 0, v, p, hs => by simp [snapF] at hs
  | n + 1, v, p, hs => by
    have ih := fun v p => snapF_snap n (v := v) (p := p)
    cases v with
    | i x =>
      simp only [snapF] at hs
      split at hs
      · rename_i hf
        cases hs
        simp [snap, hf]
      · cases hs
    | agg cs =>
      simp only [snapF] at hs
      obtain ⟨q, h1, rfl⟩ := Option.map_eq_some_iff.1 hs
      simp only [snap]
      rw [snapFL_snap ih h1]; rfl
    | tup cs =>
      simp only [snapF] at hs
      obtain ⟨q, h1, rfl⟩ := Option.map_eq_some_iff.1 hs
      simp only [snap]
      rw [snapFL_snap ih h1]; rfl
    | hsl b g off z ag len =>
      simp only [snapF] at hs
      simp only [snap]
      split at hs
      · rename_i h0; cases hs; rw [if_pos h0]
      · rename_i h0
        rw [if_neg h0]
        split at hs
        · rename_i hc
          obtain ⟨rfl, rfl⟩ := hc
          obtain ⟨cs, h1, hs⟩ := Option.bind_eq_some_iff.1 hs
          split at hs
          case isFalse => cases hs
          obtain ⟨q, h2, hs⟩ := Option.bind_eq_some_iff.1 hs
          obtain ⟨r, h3, rfl⟩ := Option.map_eq_some_iff.1 hs
          rw [h1, Option.bind_some, List.drop_zero, List.take_of_length_le (by rw [getCells_len h1]; exact Nat.le_refl _), snapFL_snap ih h2]
          exact h3
        · cases hs
    | _ => simp [snapF] at hs

theorem snapFL_congr {f g : V → Option (I × List Nat)} : ∀ {l : List V} {p : List I × List Nat}, (∀ v, v ∈ l → ∀ q, f v = some q → (∀ b, b ∈ q.2 → b ∈ p.2) → g v = some q) → snapFL f l = some p → snapFL g l = some p
  | [], p, _, h => h
  | v :: l, p, hfg, h => by
    simp only [snapFL] at h ⊢
    obtain ⟨u, h1, h⟩ := Option.bind_eq_some_iff.1 h
    obtain ⟨q, h2, rfl⟩ := Option.map_eq_some_iff.1 h
    rw [hfg v (by simp) u h1 (fun b hb => by simp [hb]), Option.bind_some]
    have := snapFL_congr (g := g) (p := q) (fun v hv q' hq hb => hfg v (by simp [hv]) q' hq (fun b hb' => by simp [hb b hb'])) h2
    rw [this]; rfl

/-- What it shows stands while its blocks stand. -/
theorem snapF_keep {h' : Heap} : ∀ (n : Nat) {v : V} {p : I × List Nat}, snapF n h v = some p → (∀ b, b ∈ p.2 → h'[b]? = h[b]?) → snapF n h' v = some p
  | 0, v, p, hs, _ => by simp [snapF] at hs
  | n + 1, v, p, hs, hk => by
    have ih := fun v (q : I × List Nat) (hq : snapF n h v = some q) (hb : ∀ b, b ∈ q.2 → b ∈ p.2) => snapF_keep n hq (fun b hb' => hk b (hb b hb'))
    cases v with
    | i x => exact hs
    | agg cs =>
      simp only [snapF] at hs ⊢
      obtain ⟨q, h1, rfl⟩ := Option.map_eq_some_iff.1 hs
      rw [snapFL_congr (fun v _ q' hq hb => ih v q' hq hb) h1]; rfl
    | tup cs =>
      simp only [snapF] at hs ⊢
      obtain ⟨q, h1, rfl⟩ := Option.map_eq_some_iff.1 hs
      rw [snapFL_congr (fun v _ q' hq hb => ih v q' hq hb) h1]; rfl
    | hsl b g off z ag len =>
      simp only [snapF] at hs ⊢
      split at hs
      · rename_i h0; rw [if_pos h0]; exact hs
      · rename_i h0
        rw [if_neg h0]
        split at hs
        · rename_i hc
          rw [if_pos hc]
          obtain ⟨cs, h1, hs⟩ := Option.bind_eq_some_iff.1 hs
          split at hs
          case isFalse => cases hs
          rename_i hgood
          obtain ⟨q, h2, hs⟩ := Option.bind_eq_some_iff.1 hs
          obtain ⟨r, h3, rfl⟩ := Option.map_eq_some_iff.1 hs
          have hb : h'[b]? = h[b]? := hk b (by simp)
          have : getCells h' b g = some cs := by unfold getCells; rw [hb]; exact h1
          rw [this, Option.bind_some, if_pos hgood, snapFL_congr (fun v _ q' hq hb => ih v q' hq (fun b' hb' => by simp [hb b' hb'])) h2, Option.bind_some, h3]
          rfl
        · cases hs
    | _ => simp [snapF] at hs

theorem snapFL_lt {f : V → Option (I × List Nat)} {m : Nat} : ∀ {l : List V} {p : List I × List Nat}, (∀ v q, f v = some q → ∀ b, b ∈ q.2 → b < m) → snapFL f l = some p → ∀ b, b ∈ p.2 → b < m
  | [], p, _, h, b, hb => by simp [snapFL] at h; subst h; simp at hb
  | v :: l, p, hf, h, b, hb => by
    simp only [snapFL] at h
    obtain ⟨u, h1, h⟩ := Option.bind_eq_some_iff.1 h
    obtain ⟨q, h2, rfl⟩ := Option.map_eq_some_iff.1 h
    rcases List.mem_append.1 hb with hb | hb
    · exact hf v u h1 b hb
    · exact snapFL_lt hf h2 b hb

theorem snapF_lt : ∀ (n : Nat) {v : V} {p : I × List Nat}, snapF n h v = some p → ∀ b, b ∈ p.2 → b < h.length
  | 0, v, p, hs => by simp [snapF] at hs
  | n + 1, v, p, hs => by
    have ih := fun v p => snapF_lt n (v := v) (p := p)
    intro b hb
    cases v with
    | i x =>
      simp only [snapF] at hs
      split at hs
      · cases hs; simp at hb
      · cases hs
    | agg cs =>
      simp only [snapF] at hs
      obtain ⟨q, h1, rfl⟩ := Option.map_eq_some_iff.1 hs
      exact snapFL_lt ih h1 b hb
    | tup cs =>
      simp only [snapF] at hs
      obtain ⟨q, h1, rfl⟩ := Option.map_eq_some_iff.1 hs
      exact snapFL_lt ih h1 b hb
    | hsl b' g off z ag len =>
      simp only [snapF] at hs
      split at hs
      · cases hs; simp at hb
      · split at hs
        · obtain ⟨cs, h1, hs⟩ := Option.bind_eq_some_iff.1 hs
          split at hs
          case isFalse => cases hs
          obtain ⟨q, h2, hs⟩ := Option.bind_eq_some_iff.1 hs
          obtain ⟨r, h3, rfl⟩ := Option.map_eq_some_iff.1 hs
          rcases List.mem_cons.1 hb with rfl | hb
          · exact gc_lt h1
          · exact snapFL_lt ih h2 b hb
        · cases hs
    | _ => simp [snapF] at hs

theorem snapFL_map {f g : V → Option (I × List Nat)} {σ : V → V} {ρ : Nat → Nat} : ∀ {l : List V} {p : List I × List Nat}, (∀ v, v ∈ l → ∀ q, f v = some q → g (σ v) = some (q.1, q.2.map ρ)) → snapFL f l = some p → snapFL g (l.map σ) = some (p.1, p.2.map ρ)
  | [], p, _, h => by simp [snapFL] at h; subst h; rfl
  | v :: l, p, hfg, h => by
    simp only [snapFL] at h
    obtain ⟨u, h1, h⟩ := Option.bind_eq_some_iff.1 h
    obtain ⟨q, h2, rfl⟩ := Option.map_eq_some_iff.1 h
    have := snapFL_map (g := g) (fun v hv q' hq => hfg v (by simp [hv]) q' hq) h2
    simp only [List.map_cons, snapFL, hfg v (by simp) u h1, Option.bind_some, this, Option.map_some, List.map_append]

/-- What is handed over shows the same where it comes to lie. -/
theorem snapF_moved {H H2 : Heap} : ∀ (n : Nat) {v : V} {p : I × List Nat}, snapF n H2 v = some p → snapF n (H ++ H2.map (Slot.move H.length)) (v.shift H.length) = some (p.1, p.2.map (· + H.length))
  | 0, v, p, hs => by simp [snapF] at hs
  | n + 1, v, p, hs => by
    have ih := fun v p => snapF_moved (H := H) (H2 := H2) n (v := v) (p := p)
    cases v with
    | i x =>
      simp only [snapF] at hs
      split at hs
      · rename_i hf; cases hs; simp [snapF, V.shift, hf]
      · cases hs
    | agg cs =>
      simp only [snapF] at hs
      obtain ⟨q, h1, rfl⟩ := Option.map_eq_some_iff.1 hs
      simp only [snapF, V.shift, shiftL_map]
      rw [snapFL_map (fun v _ q hq => ih v q hq) h1]; rfl
    | tup cs =>
      simp only [snapF] at hs
      obtain ⟨q, h1, rfl⟩ := Option.map_eq_some_iff.1 hs
      simp only [snapF, V.shift, shiftL_map]
      rw [snapFL_map (fun v _ q hq => ih v q hq) h1]; rfl
    | hsl b g off z ag len =>
      simp only [snapF] at hs
      simp only [snapF, V.shift]
      split at hs
      · rename_i h0; cases hs; rw [if_pos h0]; rfl
      · rename_i h0
        rw [if_neg h0]
        split at hs
        · rename_i hc
          rw [if_pos hc]
          obtain ⟨cs, h1, hs⟩ := Option.bind_eq_some_iff.1 hs
          split at hs
          case isFalse => cases hs
          rename_i hgood
          obtain ⟨q, h2, hs⟩ := Option.bind_eq_some_iff.1 hs
          obtain ⟨r, h3, rfl⟩ := Option.map_eq_some_iff.1 hs
          have hcells : getCells (H ++ H2.map (Slot.move H.length)) (b + H.length) g = some (cs.map (V.shift H.length)) := by
            unfold getCells at h1 ⊢
            rw [moved_at rfl]
            cases hb : H2[b]? with
            | none => rw [hb] at h1; cases h1
            | some s =>
              rw [hb] at h1
              cases s with
              | cells ds =>
                simp only at h1
                split at h1
                · rename_i hl
                  cases h1
                  simp [Slot.move, hgood, hl]
                · cases h1
              | virt =>
                simp only at h1
                split at h1
                · rename_i hl
                  cases h1
                  simp [Slot.move, hl]
                · cases h1
              | _ => cases h1
          have hg2 : (cs.map (V.shift H.length)).all V.good = true := by
            rw [List.all_map]
            refine List.all_eq_true.2 fun v hv => ?_
            have := List.all_eq_true.1 hgood v hv
            cases v <;> first | exact this | rfl | (simp [V.good] at this; done)
          rw [hcells, Option.bind_some, if_pos hg2, snapFL_map (fun v _ q hq => ih v q hq) h2, Option.bind_some, h3]
          rfl
        · cases hs
    | _ => simp [snapF] at hs

end

section
variable {P : Program} {env env' : Env} {t : Nat → V} {h : Heap} {K : V → Heap → Prop}

theorem all_good_i {xs : List I} (hf : xs.all flat = true) : (xs.map V.i).all V.good = true := by
  rw [List.all_map]; exact hf

theorem nodup_add (n : Nat) : ∀ (l : List Nat), l.Nodup → (l.map (· + n)).Nodup
  | [], _ => .nil
  | a :: l, hl => by
    have h := List.nodup_cons.1 hl
    rw [List.map_cons, List.nodup_cons]
    refine ⟨?_, nodup_add n l h.2⟩
    intro hm
    obtain ⟨b, hb, e⟩ := List.mem_map.1 hm
    have : b = a := by omega
    exact h.1 (this ▸ hb)

/-- A call of a function that hands over what it made. -/
theorem S_own {c : Nat} {A : AFn} {xs : List Operand} {as : List I} {r : I} (hc : env c = ownFn P env' A) (has : snapA 9 false h (xs.map (ev t)) = some as)
    (hR : R P env' A (as.map ofI) [] fun v H2 => v.handed = true ∧ ∃ p, snapF 9 H2 v = some p ∧ p.1 = r ∧ p.2.Nodup)
    (hK : ∀ v h' fp, h.length ≤ h'.length → (∀ b, b < h.length → h'[b]? = h[b]?) → snapF 9 h' v = some (r, fp) → fp.Nodup → (∀ b, b ∈ fp → h.length ≤ b ∧ b < h'.length) → K v h') : @S P env ⟨.call c xs⟩ t h ⟨K⟩ := by
  rw [S_call, hc]
  obtain ⟨⟨v, H2⟩, h1, hh, p, h2, rfl, h4⟩ := hR
  simp only at hh h2
  refine ⟨(v.shift h.length, h ++ H2.map (Slot.move h.length)), ?_, ?_⟩
  · unfold ownFn
    have has' : (xs.map (ev t)).mapM (snap 9 false h) = some as := has
    rw [has', Option.bind_some, h1, Option.bind_some, if_pos hh]
  · refine hK _ _ (p.2.map (· + h.length)) (by simp) (fun b hb => List.getElem?_append_left hb) (snapF_moved 9 h2) ?_ ?_
    · exact nodup_add _ _ h4
    · intro b hb
      obtain ⟨b', hb', rfl⟩ := List.mem_map.1 hb
      have := snapF_lt 9 h2 b' hb'
      simp
      omega

end
end Go.AM
