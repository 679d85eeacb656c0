/- Appending a list, as a cut of the walk. No condition. -/
import Derived.Test.YtogokiglmhnjkaaLabB32
set_option linter.unusedVariables false
set_option linter.unusedSimpArgs false
namespace Go.AM
open Pic (enc dec dec_enc dec_sub)

/-- Two strings as one. -/
def cat? (x y : ByteArray) : Option ByteArray := if ((x.size + y.size : Nat) : Int) ≤ 9223372036854775807 then some (x ++ y) else none
theorem pv_cat {x y : ByteArray} : pv (.ar .add) [.i (.s (.string x)), .i (.s (.string y))] = (cat? x y).map fun s => .i (.s (.string s)) := by
  rw [pv_sadd]
  unfold cat?
  split <;> rfl
def nums (xs : List U8) : List Int := xs.map U8.v
theorem nums_len {xs : List U8} : (nums xs).length = xs.length := List.length_map ..
theorem bytesOf_rows : ∀ {xs : List U8}, bytesOf (rows xs) = some (nums xs)
  | [] => rfl
  | x :: xs => by
    rw [rows_cons]
    show (bytesOf (rows xs)).map _ = _
    rw [bytesOf_rows (xs := xs)]
    rfl

theorem app_f {α : Type} [Pic α] {K : V × Heap → Prop} {h : Heap} {b g z y len n : Nat} {ag ag' : Bool} {xs ys v : List α} (F : Heap → Prop) (hF : F h) (hg : ∀ h, F h → getCells h b g = some (rows xs)) (hv : app? y xs ys = some v)
    (hz : z = Pic.z α) (hl : len = xs.length) (hn : n = ys.length) (hgz : g = len * z)
    (hK : ∀ h h', F h → Keep [b] h h' → getCells h' b (v.length * z) = some (rows v) → K (.hsl b (v.length * z) 0 z ag v.length, h')) : @WO _ (stepAppend none z ag y h (rows ys) n (.hsl b g 0 z ag' len)) ⟨K⟩ := by
  obtain ⟨hc, rfl, hlen⟩ := app_some hv
  subst hgz hl hn
  have hget := hg h hF
  rw [app_hsl, if_pos ⟨.inl rfl, rfl⟩, hget, Option.bind_some]
  by_cases h0 : ys.length = 0
  · rw [if_pos h0]
    obtain rfl := List.eq_nil_of_length_eq_zero h0
    refine ⟨_, rfl, ?_⟩
    have := hK h h hF keep_refl (by rw [List.append_nil]; exact hget)
    rwa [List.append_nil] at this
  · rw [if_neg h0, if_pos (by omega), if_pos rfl]
    refine ⟨_, rfl, ?_⟩
    have hb := gc_lt hget
    have e : xs.length * z + ys.length * z = (xs ++ ys).length * z := by rw [List.length_append, Nat.add_mul]
    have := hK h (h.set b (.cells (rows xs ++ rows ys))) hF (keep_set (.inl (by simp)) keep_refl) (by
      rw [gc_set_eq hb, ← rows_append, if_pos (by rw [rows_len, hz])])
    rw [e, ← List.length_append]
    exact this

section
variable {P : Program} {env : Env} {t : Nat → V} {h : Heap} {K : V → Heap → Prop}
theorem S_callV {c : Nat} {hs : List (Nat × Bool)} {args : List Operand} : @S P env ⟨.callV c hs args⟩ t h ⟨K⟩ = @WO _ (env c none (virtV hs h.length (args.map (ev t))) (h ++ List.replicate (nilsV (args.map (ev t))) .virt)) ⟨fun p => K p.1 p.2⟩ := by
  simp only [S, stepOp, evs_eq]
theorem S_appendV {z y : Nat} {ag : Bool} {x : Operand} : @S P env ⟨.appendV z ag y x⟩ t h ⟨K⟩ = @WO _ (srcCells h (ev t x)) ⟨fun ys => @WO _ (lenV (ev t x)) ⟨fun n =>
      (ys.all V.one = true ∧ ys.length = n * z) ∧ @WO _ (stepAppend none z ag y (h ++ [.virt]) ys n (.hsl h.length 0 0 z ag 0)) ⟨fun p => K p.1 p.2⟩⟩⟩ := by
  simp only [S, stepOp, ev_eq, WO_bind, WO_ite_none]
  repeat (first | (refine WO_ext fun _ => ?_) | simp only [S, stepOp, ev_eq, WO_bind, WO_ite_none])
end

/-! ### Parts of lists and of strings -/

/-- What lies between two places. -/
def cut? {α : Type} (xs : List α) (lo hi : Int) : Option (List α) := if 0 ≤ lo ∧ lo ≤ hi ∧ hi ≤ xs.length then some ((xs.drop lo.toNat).take (hi.toNat - lo.toNat)) else none
theorem cut_some {α : Type} {xs v : List α} {lo hi : Int} (h : cut? xs lo hi = some v) : (0 ≤ lo ∧ lo ≤ hi ∧ hi ≤ xs.length) ∧ v = (xs.drop lo.toNat).take (hi.toNat - lo.toNat) ∧ v.length = hi.toNat - lo.toNat := by
  unfold cut? at h
  split at h
  · rename_i hc
    cases h
    refine ⟨hc, rfl, ?_⟩
    rw [List.length_take, List.length_drop]
    omega
  · cases h
def cutS? (s : ByteArray) (lo hi : Int) : Option ByteArray := if 0 ≤ lo ∧ lo ≤ hi ∧ hi ≤ s.size then some (s.extract lo.toNat hi.toNat) else none

def sliceV (z : Nat) (v : V) (lo hi : Option V) : Option V := stepSlice z (fun len => (match hi with | none => some len | some u => (intV u).bind fun n => if 0 ≤ n ∧ n ≤ (len : Int) then some n.toNat else none).bind fun h =>
  (match lo with | none => some 0 | some u => (intV u).bind fun n => if 0 ≤ n ∧ n ≤ (h : Int) then some n.toNat else none).map fun l => (l, h)) v
section
variable {P : Program} {env : Env} {t : Nat → V} {h : Heap} {K : V → Heap → Prop} {α : Type} [Pic α] {xs : List α} {z : Nat} {n m : Int}
theorem S_sliceV {x : Operand} {lo hi : Option Operand} : @S P env ⟨.slice z x lo hi⟩ t h ⟨K⟩ = @WO _ (sliceV z (ev t x) (lo.map (ev t)) (hi.map (ev t))) ⟨fun v => K v h⟩ := by
  rw [S_slice]
  congr 1
  unfold sliceV
  congr 1
  funext len
  cases lo <;> cases hi <;> rfl
theorem slv_key : ((if 0 ≤ m ∧ m ≤ (xs.length : Int) then some m.toNat else none).bind fun h => (if 0 ≤ n ∧ n ≤ (h : Int) then some n.toNat else none).map fun l => (l, h)).bind (fun p => some (V.i (I.sl z (((xs.map enc).drop p.1).take (p.2 - p.1))))) = (cut? xs n m).map fun (ys : List α) => V.i (I.sl z (ys.map enc)) := by
  unfold cut?
  by_cases hm : 0 ≤ m ∧ m ≤ (xs.length : Int)
  · rw [if_pos hm]
    simp only [Option.bind_some]
    by_cases hn : 0 ≤ n ∧ n ≤ ((m.toNat : Nat) : Int)
    · rw [if_pos hn, if_pos ⟨hn.1, by omega, hm.2⟩]
      simp only [Option.map_some, Option.bind_some, List.map_take, List.map_drop]
    · rw [if_neg hn, if_neg (by omega)]; rfl
  · rw [if_neg hm, if_neg (by omega)]; rfl
theorem slv_ss {k k' : IntKind} : sliceV z (.i (.sl z (xs.map enc))) (some (.i (.s (.int k n)))) (some (.i (.s (.int k' m)))) = (cut? xs n m).map fun (ys : List α) => V.i (I.sl z (ys.map enc)) := by
  rw [← slv_key]
  unfold sliceV
  simp only [stepSlice, List.length_map, if_true, intV, Option.bind_some]
theorem slv_sn {k : IntKind} : sliceV z (.i (.sl z (xs.map enc))) (some (.i (.s (.int k n)))) none = (cut? xs n xs.length).map fun (ys : List α) => V.i (I.sl z (ys.map enc)) := by
  rw [← slv_key]
  unfold sliceV
  rw [if_pos ⟨by omega, by omega⟩]
  simp only [stepSlice, List.length_map, if_true, intV, Option.bind_some, Int.toNat_natCast]
theorem slv_ns {k : IntKind} : sliceV z (.i (.sl z (xs.map enc))) none (some (.i (.s (.int k m)))) = (cut? xs 0 m).map fun (ys : List α) => V.i (I.sl z (ys.map enc)) := by
  rw [← slv_key]
  unfold sliceV
  have : ∀ h : Nat, (if (0 : Int) ≤ 0 ∧ (0 : Int) ≤ (h : Int) then some (Int.toNat 0) else none) = some 0 := fun h => if_pos ⟨by omega, by omega⟩
  simp only [stepSlice, List.length_map, if_true, intV, Option.bind_some, this]
theorem slv_nn : sliceV z (.i (.sl z (xs.map enc))) none none = (cut? xs 0 xs.length).map fun (ys : List α) => V.i (I.sl z (ys.map enc)) := by
  rw [← slv_key]
  unfold sliceV
  have : ∀ h : Nat, (if (0 : Int) ≤ 0 ∧ (0 : Int) ≤ (h : Int) then some (Int.toNat 0) else none) = some 0 := fun h => if_pos ⟨by omega, by omega⟩
  rw [if_pos ⟨by omega, by omega⟩]
  simp only [stepSlice, List.length_map, if_true, intV, Option.bind_some, this, Int.toNat_natCast]
theorem slh_sn {k : IntKind} {b g len : Nat} {ag : Bool} : sliceV z (.hsl b g 0 z ag len) (some (.i (.s (.int k n)))) none = if 0 ≤ n ∧ n ≤ (len : Int) then some (.hsl b g (n.toNat * z) z ag (len - n.toNat)) else none := by
  unfold sliceV
  simp only [stepSlice, Option.bind_some, intV, if_true, Nat.zero_add]
  split <;> rfl
theorem slh_ns {k : IntKind} {b g len : Nat} {ag : Bool} : sliceV z (.hsl b g 0 z ag len) none (some (.i (.s (.int k m)))) = if 0 ≤ m ∧ m ≤ (len : Int) then some (.hsl b g 0 z ag m.toNat) else none := by
  unfold sliceV
  simp only [stepSlice, Option.bind_some, Option.map_some, intV, if_true, Nat.zero_add]
  split <;> simp
variable {s : ByteArray}
theorem pv_slS_sn {k : IntKind} : pv (.slS true false) [.i (.s (.string s)), .i (.s (.int k n))] = (cutS? s n s.size).map fun x => .i (.s (.string x)) := by
  simp only [pv, toValV, toVal, npu, strSl, List.mapM_cons, List.mapM_nil, Option.bind_eq_bind, Option.bind_some, Option.pure_def, cutS?]
  split <;> rfl
theorem pv_slS_ns {k : IntKind} : pv (.slS false true) [.i (.s (.string s)), .i (.s (.int k m))] = (cutS? s 0 m).map fun x => .i (.s (.string x)) := by
  simp only [pv, toValV, toVal, npu, strSl, List.mapM_cons, List.mapM_nil, Option.bind_eq_bind, Option.bind_some, Option.pure_def, cutS?]
  split <;> rfl
theorem pv_slS_ss {k k' : IntKind} : pv (.slS true true) [.i (.s (.string s)), .i (.s (.int k n)), .i (.s (.int k' m))] = (cutS? s n m).map fun x => .i (.s (.string x)) := by
  simp only [pv, toValV, toVal, npu, strSl, List.mapM_cons, List.mapM_nil, Option.bind_eq_bind, Option.bind_some, Option.pure_def, cutS?]
  split <;> rfl
/-- A string's bytes. -/
def bytesL (s : ByteArray) : List U8 := s.data.toList.map fun b => ⟨(b.toNat : Int)⟩
theorem rows_bytesL : rows (bytesL s) = s.data.toList.map fun b => V.i (.s (.int .u8 b.toNat)) := by
  unfold bytesL
  induction s.data.toList with
  | nil => rfl
  | cons a l ih => rw [List.map_cons, rows_cons, ih]; rfl
theorem src_str : srcCells h (.i (.s (.string s))) = some (rows (bytesL s)) := by rw [rows_bytesL]; rfl
theorem lenV_str : lenV (.i (.s (.string s))) = some (bytesL s).length := by
  show some s.size = _
  rw [bytesL, List.length_map]; rfl
theorem bytesL_len : (bytesL s).length = s.size := by rw [bytesL, List.length_map]; rfl
end

/-- append of elements that are named one by one. -/
theorem app_cons {h : Heap} {b g off z z' y len n : Nat} {ag ag' : Bool} {c : V} {ys : List V} : stepAppend none z ag y h (c :: ys) n (.hsl b g off z' ag' len) = if (z' = z ∨ z' = 0) ∧ off = 0 then (getCells h b g).bind fun cs =>
      if n = 0 then some (.hsl b g 0 z ag len, h)
      else if (len + n) * y ≤ 140737488355328 then
        if len * z = g then some (.hsl b (g + n * z) 0 z ag (len + n), h.set b (.cells (cs ++ (c :: ys))))
        else (newSlot none (h.set b .dead) (.cells (cs.take (len * z) ++ (c :: ys)))).map fun p => (.hsl p.1 ((len + n) * z) 0 z ag (len + n), p.2)
      else none
    else none := rfl
theorem app_nilc {h : Heap} {z y n : Nat} {ag : Bool} {c : V} {ys : List V} : stepAppend none z ag y h (c :: ys) n (.i (.s (.slice none 0 0))) = if n = 0 then some (.i (.s (.slice none 0 0)), h)
    else if n * y ≤ 140737488355328 then some (.hsl h.length (n * z) 0 z ag n, h ++ [.cells (c :: ys)]) else none := app_nil

theorem gc_eq {h : Heap} {b g g' : Nat} {c : List V} (hc : getCells h b g = some c) (hg : g' = g) : getCells h b g' = some c := by subst hg; exact hc

open PicA (encA decA decA_encA decA_sub)
/-- No arguments. -/
def dec0 : List I → Option Unit
  | [] => some ()
  | _ => none
instance : PicA Unit where
  encA _ := []
  decA := dec0
  decA_encA _ := rfl
  decA_sub xs a h := by
    unfold dec0 at h
    split at h
    · exact .nil
    · cases h
theorem encA_0 {u : Unit} : encA u = [] := rfl
theorem decA_none : (decA [] : Option Unit) = some () := rfl

/-- The same, where the heap itself is spoken of behind the call. -/
theorem call_fa {G : Fun} {args : List V} {h : Heap} {K : V × Heap → Prop} (F : Heap → Prop) (Post : Heap → V → Heap → Prop) (hF : F h)
    (hc : ∀ h, F h → ∃ p, G none args h = some p ∧ Post h p.1 p.2) (hK : ∀ v h', F h → Post h v h' → K (v, h')) : @WO _ (G none args h) ⟨K⟩ := by
  obtain ⟨⟨v, h'⟩, h1, h2⟩ := hc h hF
  exact ⟨(v, h'), h1, hK v h' hF h2⟩
end Go.AM
