/- A log taken apart (a struct of lists behind a pointer): its pictures, and it in blocks of its own. No condition. -/
import Derived.Test.YtogokiglmhnjkaaLabB36
set_option linter.unusedVariables false
set_option linter.unusedSimpArgs false
namespace Go.AM
open Pic (enc dec dec_enc dec_sub)
open PicA (encA decA decA_encA decA_sub)

structure TBook where
  of_ : List (List TOp)
  kind : List Int
  size : Int
  top : TStamp
  h1 : of_.length = 16
  h2 : kind.length = 101

def TBook.nums (k : TBook) : List Int := k.kind ++ [k.size, k.top.time, k.top.actor]
def bookC (k : TBook) : List I := k.of_.map enc ++ k.nums.map enc

theorem nums_len' {k : TBook} : k.nums.length = 104 := by simp [TBook.nums, k.h2]
theorem bookC_len {k : TBook} : (bookC k).length = 120 := by simp [bookC, nums_len', k.h1]

def mkBook (o : List (List TOp)) (ns : List Int) : Option TBook :=
  match ns.drop 101 with
  | [n, a, b] => if h : o.length = 16 ∧ (ns.take 101).length = 101 then some ⟨o, ns.take 101, n, ⟨a, b⟩, h.1, h.2⟩ else none
  | _ => none

theorem mkBook_nums {k : TBook} : mkBook k.of_ k.nums = some k := by
  obtain ⟨o, ks, n, ⟨a, b⟩, h1, h2⟩ := k
  have e1 : (ks ++ [n, a, b]).take 101 = ks := List.take_left' h2
  have e2 : (ks ++ [n, a, b]).drop 101 = [n, a, b] := List.drop_left' h2
  show mkBook o (ks ++ [n, a, b]) = _
  unfold mkBook
  rw [e2]
  dsimp only
  rw [dif_pos ⟨h1, by rw [e1]; exact h2⟩]
  simp only [e1]

theorem mkBook_eq {o : List (List TOp)} {ns : List Int} {k : TBook} (h : mkBook o ns = some k) : k.of_ = o ∧ k.nums = ns := by
  unfold mkBook at h
  split at h
  · rename_i n a b e
    split at h
    · cases h
      refine ⟨rfl, ?_⟩
      simp only [TBook.nums]
      rw [← e]
      exact List.take_append_drop _ _
    · cases h
  · cases h

def decBk (cs : List I) : Option TBook := (decL (cs.take 16)).bind fun o => (decL (cs.drop 16)).bind fun ns => mkBook o ns

def decOB : I → Option (Option TBook)
  | .s (.pointer none) => some none
  | .ip cs => (decBk cs).map some
  | _ => none

theorem decBk_enc {k : TBook} : decBk (bookC k) = some k := by
  unfold decBk bookC
  rw [List.take_left' (by rw [List.length_map]; exact k.h1), List.drop_left' (by rw [List.length_map]; exact k.h1), decL_enc, Option.bind_some, decL_enc, Option.bind_some, mkBook_nums]

def encOB : Option TBook → I
  | none => .s (.pointer none)
  | some k => .ip (bookC k)

instance : Pic (Option TBook) where
  z := 1
  ag := false
  enc := encOB
  dec := decOB
  dec_enc x := by cases x <;> simp [encOB, decOB, decBk_enc]
  len x := by cases x <;> rfl
  pos := by decide
  one := .inr rfl
  row x := by cases x <;> rfl
  dec_sub x a h := by
    unfold decOB at h
    split at h
    · cases h; exact .refl _
    · rename_i cs
      obtain ⟨k, h1, rfl⟩ := Option.map_eq_some_iff.1 h
      unfold decBk at h1
      obtain ⟨o, h2, h1⟩ := Option.bind_eq_some_iff.1 h1
      obtain ⟨ns, h3, h1⟩ := Option.bind_eq_some_iff.1 h1
      obtain ⟨rfl, rfl⟩ := mkBook_eq h1
      have := (decL_sub _ _ h2).append (decL_sub _ _ h3)
      rw [List.take_append_drop] at this
      exact .ip this
    · cases h

theorem enc_ob {k : TBook} : enc (some k) = .ip (bookC k) := rfl
theorem enc_on : enc (none : Option TBook) = .s (.pointer none) := rfl
theorem dec_ob {k : TBook} : (dec (.ip (bookC k)) : Option (Option TBook)) = some (some k) := dec_enc (some k)
theorem dec_on : (dec (.s (.pointer none)) : Option (Option TBook)) = some none := rfl
theorem ofI_ob {x : Option TBook} : ofI (enc x) = .i (enc x) := by cases x <;> rfl
theorem cells_ob {x : Option TBook} : V.cells (.i (enc x)) = [.i (enc x)] := by cases x <;> rfl

def TBook.setOf (k : TBook) (i : Nat) (xs : List TOp) : TBook := ⟨k.of_.set i xs, k.kind, k.size, k.top, by rw [List.length_set]; exact k.h1, k.h2⟩
def TBook.setKind (k : TBook) (i : Nat) (n : Int) : TBook := ⟨k.of_, k.kind.set i n, k.size, k.top, k.h1, by rw [List.length_set]; exact k.h2⟩
def TBook.setSize (k : TBook) (n : Int) : TBook := ⟨k.of_, k.kind, n, k.top, k.h1, k.h2⟩
def TBook.setTop (k : TBook) (s : TStamp) : TBook := ⟨k.of_, k.kind, k.size, s, k.h1, k.h2⟩
def book0 : TBook := ⟨List.replicate 16 [], List.replicate 101 0, 0, ⟨0, 0⟩, rfl, rfl⟩

theorem idxA_ptr {z k b g o : Nat} : stepIdxA z k (.ptr b g o) = some (.ptr b g (o + k * z)) := rfl
theorem idxA_ip {z k : Nat} {cs : List I} : stepIdxA z k (.i (.ip cs)) = if k * z < cs.length then some (.i (.ip (cs.drop (k * z)))) else none := rfl

/-- A list in a block of its own, or none yet. -/
def OwnL (h : Heap) (v : V) (xs : List TOp) : Prop :=
  (v = .i (.s (.slice none 0 0)) ∧ xs = []) ∨ ∃ c, v = .hsl c (xs.length * 12) 0 12 true xs.length ∧ getCells h c (xs.length * 12) = some (rows xs)

def BR (k : TBook) : List V := k.nums.map fun n => .i (iN n)
theorem BR_len {k : TBook} : (BR k).length = 104 := by simp [BR, nums_len']

structure BookV (h : Heap) (b : Nat) (k : TBook) (vs : List V) : Prop where
  len : vs.length = 16
  row : getCells h b 120 = some (vs ++ BR k)
  own : ∀ (i : Nat) (v : V) (xs : List TOp), vs[i]? = some v → k.of_[i]? = some xs → OwnL h v xs
  ne : ∀ (i c g o z : Nat) (ag : Bool) (n : Nat), vs[i]? = some (.hsl c g o z ag n) → c ≠ b
  nd : ∀ (i j c g g' : Nat) (o o' z z' : Nat) (ag ag' : Bool) (n n' : Nat), vs[i]? = some (.hsl c g o z ag n) → vs[j]? = some (.hsl c g' o' z' ag' n') → i = j

def BookAt (h : Heap) (b : Nat) (k : TBook) : Prop := ∃ vs, BookV h b k vs

section
variable {h h' : Heap} {b n : Nat} {k : TBook} {vs : List V} {v : V} {xs : List TOp}

theorem ownL_lenS (ho : OwnL h v xs) : lenS v = some xs.length := by
  rcases ho with ⟨rfl, rfl⟩ | ⟨c, rfl, _⟩ <;> rfl
theorem ownL_idx {x : TOp} {i : Int} (ho : OwnL h v xs) (hx : get? xs i = some x) : ∃ c, v = .hsl c (xs.length * 12) 0 12 true xs.length ∧ getCells h c (xs.length * 12) = some (rows xs) := by
  rcases ho with ⟨rfl, rfl⟩ | ho
  · have := (get_some hx).2.2
    simp at this
  · exact ho
theorem ownL_same (ho : OwnL h v xs) (hk : ∀ c, c < h.length → h'[c]? = h[c]?) : OwnL h' v xs := by
  rcases ho with ho | ⟨c, rfl, hc⟩
  · exact .inl ho
  · exact .inr ⟨c, rfl, by rw [getCells_congr (hk c (gc_lt hc))]; exact hc⟩
theorem ownL_snap (ho : OwnL h v xs) : ∃ y, snap (n + 2) false h v = some y ∧ (dec y : Option (List TOp)) = some xs := by
  rcases ho with ⟨rfl, rfl⟩ | ⟨c, rfl, hc⟩
  · exact ⟨_, snap_i, rfl⟩
  · exact ⟨_, snap_rows hc rfl rfl rfl, dec_enc xs⟩

theorem bookV_same (hv : BookV h b k vs) (hk : ∀ c, c < h.length → h'[c]? = h[c]?) : BookV h' b k vs :=
  ⟨hv.len, by rw [getCells_congr (hk b (gc_lt hv.row))]; exact hv.row, fun i v xs h1 h2 => ownL_same (hv.own i v xs h1 h2) hk, hv.ne, hv.nd⟩
theorem book_ext {l : Heap} (hv : BookAt h b k) : BookAt (h ++ l) b k := by
  obtain ⟨vs, hv⟩ := hv
  exact ⟨vs, bookV_same hv fun c hc => List.getElem?_append_left hc⟩
theorem book_keep (hv : BookAt h b k) (hk : Keep [] h h') : BookAt h' b k := by
  obtain ⟨vs, hv⟩ := hv
  exact ⟨vs, bookV_same hv fun c hc => hk.at_ c hc (by simp)⟩
theorem book_lt (hv : BookAt h b k) : b < h.length := by
  obtain ⟨vs, hv⟩ := hv
  exact gc_lt hv.row
theorem book_new (hc : getCells h b 120 = some (List.replicate 16 (.i (.s (.slice none 0 0))) ++ BR book0)) : BookAt h b book0 := by
  refine ⟨_, by simp, hc, fun i v xs h1 h2 => .inl ?_, fun i c g o z ag n h1 => ?_, fun i j c g g' o o' z z' ag ag' n n' h1 => ?_⟩
  · have := List.mem_of_getElem? h1
    have h3 := List.mem_of_getElem? h2
    simp [book0] at this h3
    exact ⟨this, h3⟩
  · have := List.mem_of_getElem? h1
    simp at this
  · have := List.mem_of_getElem? h1
    simp at this

theorem snapA_own : ∀ {vs : List V} {xss : List (List TOp)}, vs.length = xss.length → (∀ (i : Nat) (v : V) (xs : List TOp), vs[i]? = some v → xss[i]? = some xs → OwnL h v xs) →
    ∃ ys, snapA (n + 2) false h vs = some ys ∧ decL ys = some xss ∧ ys.length = vs.length
  | [], [], _, _ => ⟨[], rfl, rfl, rfl⟩
  | v :: vs, xs :: xss, hl, ho => by
    obtain ⟨y, h1, h2⟩ := ownL_snap (n := n) (ho 0 v xs rfl rfl)
    obtain ⟨ys, h3, h4, h5⟩ := snapA_own (vs := vs) (xss := xss) (by simpa using hl) fun i v xs h1 h2 => ho (i + 1) v xs h1 h2
    refine ⟨y :: ys, ?_, ?_, by simp [h5]⟩
    · rw [snapA_cons, h1, Option.bind_some, h3]; rfl
    · simp only [decL, h2, Option.bind_some, h4, Option.map_some]
  | [], _ :: _, h, _ => by simp at h
  | _ :: _, [], h, _ => by simp at h

theorem snap_book (hv : BookAt h b k) : ∃ y, snap (n + 3) false h (.ptr b 120 0) = some y ∧ (dec y : Option (Option TBook)) = some (some k) := by
  obtain ⟨vs, hv⟩ := hv
  obtain ⟨ys, h1, h2, h3⟩ := snapA_own (n := n) (h := h) (vs := vs) (xss := k.of_) (by rw [hv.len, k.h1]) hv.own
  have h4 : snapA (n + 2) false h (BR k) = some (k.nums.map enc) := by
    have : BR k = (k.nums.map enc).map V.i := by simp only [BR, List.map_map]; rfl
    rw [this]
    exact snapA_pics
  have hl : 0 < (vs ++ BR k).length := by rw [List.length_append, hv.len]; omega
  refine ⟨.ip (ys ++ k.nums.map enc), ?_, ?_⟩
  · rw [snap_ptr, hv.row, Option.bind_some, if_pos hl, List.drop_zero, snapA_append, h1, Option.bind_some, h4]
    rfl
  · show decOB _ = _
    have e1 : (ys ++ k.nums.map enc).take 16 = ys := List.take_left' (by rw [h3, hv.len])
    have e2 : (ys ++ k.nums.map enc).drop 16 = k.nums.map enc := List.drop_left' (by rw [h3, hv.len])
    simp only [decOB, decBk, e1, e2, h2, decL_enc, Option.bind_some, mkBook_nums, Option.map_some]

-- what is read and what is written
theorem ld_of {R : List V} {i : Nat} (hi : vs[i]? = some v) : List.take 1 (List.drop i (vs ++ R)) = [v] := by
  obtain ⟨hlt, he⟩ := List.getElem?_eq_some_iff.1 hi
  rw [List.drop_append_of_le_length (by omega), List.drop_eq_getElem_cons hlt, he]
  rfl
theorem ld_kind {i : Nat} {x : Int} (hl : vs.length = 16) (hi : k.kind[i]? = some x) : List.take 1 (List.drop (16 + i) (vs ++ BR k)) = [.i (.s (.int .i64 x))] := by
  rw [drop_at hl]
  obtain ⟨hlt, he⟩ := List.getElem?_eq_some_iff.1 hi
  have : (BR k)[i]? = some (.i (iN x)) := by
    unfold BR TBook.nums
    rw [List.getElem?_map, List.getElem?_append_left hlt, hi]
    rfl
  have := ld_of (R := []) this
  simpa using this
theorem ld_size (hl : vs.length = 16) : List.take 1 (List.drop 117 (vs ++ BR k)) = [.i (.s (.int .i64 k.size))] := by
  rw [show 117 = 16 + 101 from rfl, drop_at hl]
  have : (BR k)[101]? = some (.i (iN k.size)) := by
    simp [BR, TBook.nums, List.getElem?_append_right (show k.kind.length ≤ 101 by rw [k.h2]; exact Nat.le_refl _), k.h2]
  have := ld_of (R := []) this
  simpa using this
theorem BR_top : List.drop 102 (BR k) = [.i (.s (.int .i64 k.top.time)), .i (.s (.int .i64 k.top.actor))] := by
  have : (k.nums).drop 102 = [k.top.time, k.top.actor] := by
    unfold TBook.nums
    rw [show 102 = 101 + 1 from rfl, ← List.drop_drop, List.drop_left' k.h2]
    rfl
  unfold BR
  rw [← List.map_drop, this]
  rfl
theorem ld_top (hl : vs.length = 16) : List.take 2 (List.drop 118 (vs ++ BR k)) = [.i (.s (.int .i64 k.top.time)), .i (.s (.int .i64 k.top.actor))] := by
  rw [show 118 = 16 + 102 from rfl, drop_at hl, BR_top]
  rfl
theorem set_split {α : Type} {xs : List α} {i : Nat} {y : α} (hi : i < xs.length) : List.take i xs ++ y :: List.drop (i + 1) xs = xs.set i y := by
  rw [List.set_eq_take_append_cons_drop, if_pos hi]
theorem st_of {R : List V} {i : Nat} (hi : i < vs.length) : List.take i (vs ++ R) ++ v :: List.drop (i + 1) (vs ++ R) = vs.set i v ++ R := by
  rw [set_split (by rw [List.length_append]; omega), List.set_append_left _ _ hi]
theorem st_kind {i : Nat} {x : Int} (hl : vs.length = 16) (hi : i < 101) : List.take (16 + i) (vs ++ BR k) ++ .i (.s (.int .i64 x)) :: List.drop (16 + i + 1) (vs ++ BR k) = vs ++ BR (k.setKind i x) := by
  rw [set_split (by rw [List.length_append, BR_len]; omega), List.set_append_right _ _ (by omega), hl, Nat.add_sub_cancel_left]
  congr 1
  simp only [BR, TBook.nums, TBook.setKind]
  rw [← List.set_append_left _ _ (by rw [k.h2]; exact hi), List.map_set]
theorem st_size {x : Int} (hl : vs.length = 16) : List.take 117 (vs ++ BR k) ++ .i (.s (.int .i64 x)) :: List.drop 118 (vs ++ BR k) = vs ++ BR (k.setSize x) := by
  rw [set_split (i := 117) (by rw [List.length_append, BR_len]; omega), List.set_append_right _ _ (by omega), hl]
  congr 1
  simp only [BR, TBook.nums, TBook.setSize]
  have : (k.kind ++ [x, k.top.time, k.top.actor]) = (k.kind ++ [k.size, k.top.time, k.top.actor]).set 101 x := by
    rw [List.set_append_right _ _ (by rw [k.h2]; exact Nat.le_refl _), k.h2]
    rfl
  rw [this, List.map_set]
theorem st_top {s : TStamp} (hl : vs.length = 16) : List.take 118 (vs ++ BR k) ++ .i (.s (.int .i64 s.time)) :: .i (.s (.int .i64 s.actor)) :: List.drop 120 (vs ++ BR k) = vs ++ BR (k.setTop s) := by
  rw [show 118 = 16 + 102 from rfl, show 120 = 16 + 104 from rfl, take_at hl, drop_at hl, List.append_assoc]
  congr 1
  have e : List.drop 104 (BR k) = [] := List.drop_eq_nil_of_le (by rw [BR_len]; exact Nat.le_refl _)
  rw [e]
  have e2 : BR (k.setTop s) = List.take 102 (BR (k.setTop s)) ++ List.drop 102 (BR (k.setTop s)) := (List.take_append_drop _ _).symm
  rw [e2, BR_top]
  congr 1
  simp only [BR, TBook.nums, TBook.setTop, ← List.map_take]
  congr 1
  rw [show 102 = 101 + 1 from rfl, ← k.h2, List.take_length_add_append, List.take_length_add_append]
  rfl

theorem book_put {k' : TBook} {i c' : Nat} {v' : V} {ys : List TOp} (hv : BookV h b k vs) (hvi : vs[i]? = some v) (hx : k.of_[i]? = some xs) (hk' : k'.of_ = k.of_.set i ys)
    (hkeep : ∀ c, c < h.length → c ≠ b → (∀ g o z ag n, v ≠ .hsl c g o z ag n) → h'[c]? = h[c]?)
    (hrow : getCells h' b 120 = some (vs.set i v' ++ BR k')) (hv' : v' = .hsl c' (ys.length * 12) 0 12 true ys.length) (hown : getCells h' c' (ys.length * 12) = some (rows ys))
    (hc' : h.length ≤ c' ∨ ∃ g o z ag n, v = .hsl c' g o z ag n) : BookV h' b k' (vs.set i v') := by
  have hil := (List.getElem?_eq_some_iff.1 hvi).1
  have hil2 := (List.getElem?_eq_some_iff.1 hx).1
  have hat : ∀ j u, (vs.set i v')[j]? = some u → (j = i ∧ u = v') ∨ (j ≠ i ∧ vs[j]? = some u) := by
    intro j u hj
    by_cases e : j = i
    · subst e
      rw [List.getElem?_set_self hil] at hj
      exact .inl ⟨rfl, (Option.some.inj hj).symm⟩
    · rw [List.getElem?_set_ne (Ne.symm e)] at hj
      exact .inr ⟨e, hj⟩
  have hlt : ∀ (j c g o z : Nat) (ag : Bool) (n : Nat), vs[j]? = some (V.hsl c g o z ag n) → c < h.length := by
    intro j c g o z ag n hj
    have hjl := (List.getElem?_eq_some_iff.1 hj).1
    have hjk : j < k.of_.length := by rw [k.h1]; have := hv.len; omega
    have : k.of_[j]? = some k.of_[j] := List.getElem?_eq_getElem hjk
    rcases hv.own j _ _ hj this with ⟨e, _⟩ | ⟨c2, e, hg⟩
    · cases e
    · cases e
      exact gc_lt hg
  refine ⟨by rw [List.length_set]; exact hv.len, hrow, ?_, ?_, ?_⟩
  · intro j u xs' h1 h2
    rw [hk'] at h2
    rcases hat j u h1 with ⟨rfl, rfl⟩ | ⟨e, h1⟩
    · rw [List.getElem?_set_self hil2] at h2
      cases h2
      exact .inr ⟨c', hv', hown⟩
    · rw [List.getElem?_set_ne (Ne.symm e)] at h2
      rcases hv.own j u xs' h1 h2 with h3 | ⟨c2, rfl, hg⟩
      · exact .inl h3
      · refine .inr ⟨c2, rfl, ?_⟩
        rw [getCells_congr (hkeep c2 (gc_lt hg) (hv.ne _ _ _ _ _ _ _ h1) fun g o z ag n he => e ?_)]
        · exact hg
        · subst he
          exact hv.nd _ _ _ _ _ _ _ _ _ _ _ _ _ h1 hvi
  · intro j c g o z ag n h1
    rcases hat j _ h1 with ⟨rfl, e⟩ | ⟨e, h1⟩
    · rw [hv'] at e
      cases e
      rcases hc' with hc' | ⟨g, o, z, ag, n, rfl⟩
      · have := gc_lt hv.row
        omega
      · exact hv.ne _ _ _ _ _ _ _ hvi
    · exact hv.ne _ _ _ _ _ _ _ h1
  · intro j l c g g' o o' z z' ag ag' n n' h1 h2
    rcases hat j _ h1 with ⟨rfl, e1⟩ | ⟨e1, j1⟩ <;> rcases hat l _ h2 with ⟨rfl, e2⟩ | ⟨e2, j2⟩
    · rfl
    · rw [hv'] at e1
      cases e1
      rcases hc' with hc' | ⟨g, o, z, ag, n, rfl⟩
      · have := hlt _ _ _ _ _ _ _ j2
        omega
      · exact hv.nd _ _ _ _ _ _ _ _ _ _ _ _ _ hvi j2
    · rw [hv'] at e2
      cases e2
      rcases hc' with hc' | ⟨g2, o2, z2, ag2, n2, hvv⟩
      · have := hlt _ _ _ _ _ _ _ j1
        omega
      · subst hvv
        exact hv.nd _ _ _ _ _ _ _ _ _ _ _ _ _ j1 hvi
    · exact hv.nd _ _ _ _ _ _ _ _ _ _ _ _ _ j1 j2
end

theorem at_app {h l : Heap} : (h ++ l)[h.length]? = l[0]? := by rw [List.getElem?_append_right (Nat.le_refl _), Nat.sub_self]
theorem at_app_set {h l : Heap} {c : Nat} {s : Slot} : (h.set c s ++ l)[h.length]? = l[0]? := by rw [List.getElem?_append_right (by simp), List.length_set, Nat.sub_self]
theorem ev_ptr {t : Nat → V} : ev t (.const (.pointer none)) = .i (.s (.pointer none)) := rfl
theorem retV_nil {st : St} : retV st [] = some (.tup []) := rfl
theorem ip_of {k : TBook} {i : Int} {xs : List TOp} (h : get? k.of_ i = some xs) : List.take 1 (List.drop i.toNat (bookC k)) = [.sl 12 (xs.map enc)] := by
  obtain ⟨hlt, he⟩ := List.getElem?_eq_some_iff.1 (get_some h).2.2
  unfold bookC
  rw [List.drop_append_of_le_length (by rw [List.length_map]; omega), List.drop_eq_getElem_cons (by rw [List.length_map]; exact hlt), List.getElem_map, he]
  rfl
theorem ip_kind {k : TBook} {i x : Int} (h : get? k.kind i = some x) : List.take 1 (List.drop i.toNat (List.drop 16 (bookC k))) = [.s (.int .i64 x)] := by
  obtain ⟨hlt, he⟩ := List.getElem?_eq_some_iff.1 (get_some h).2.2
  unfold bookC TBook.nums
  rw [List.drop_left' (by rw [List.length_map]; exact k.h1), List.map_append, List.drop_append_of_le_length (by rw [List.length_map]; omega), List.drop_eq_getElem_cons (by rw [List.length_map]; exact hlt), List.getElem_map, he]
  rfl
theorem ip_len {k : TBook} {i : Int} {n : Nat} (h : i.toNat + n < 120) : 1 ≤ (List.drop i.toNat (List.drop n (bookC k))).length := by
  rw [List.length_drop, List.length_drop, bookC_len]
  omega
theorem ip_len0 {k : TBook} {i : Int} (h : i.toNat < 120) : 1 ≤ (List.drop i.toNat (bookC k)).length := by
  rw [List.length_drop, bookC_len]
  omega
/-- Block c is none of the book's at block b. -/
structure Free (h : Heap) (c b : Nat) : Prop where
  ne : c ≠ b
  no : ∀ cs, getCells h b 120 = some cs → ∀ (i g o z : Nat) (ag : Bool) (n : Nat), cs[i]? ≠ some (.hsl c g o z ag n)
theorem free_same {h h' : Heap} {b c : Nat} (hf : Free h c b) (hb : h'[b]? = h[b]?) : Free h' c b := ⟨hf.ne, fun cs hc => hf.no cs (by rw [← getCells_congr hb]; exact hc)⟩
theorem free_ext {h l : Heap} {b c : Nat} (hf : Free h c b) (hb : b < h.length) : Free (h ++ l) c b := free_same hf (List.getElem?_append_left hb)
theorem free_set {h : Heap} {b c d : Nat} {s : Slot} (hf : Free h c b) (hd : d ≠ b) : Free (h.set d s) c b := free_same hf (List.getElem?_set_ne hd)
theorem free_keep {h h' : Heap} {b c : Nat} (hf : Free h c b) (hk : Keep [] h h') (hb : b < h.length) : Free h' c b := free_same hf (hk.at_ b hb (by simp))
theorem free_new {h : Heap} {b c : Nat} {k : TBook} (hc : getCells h b 120 = some (List.replicate 16 (.i (.s (.slice none 0 0))) ++ BR k)) (hne : c ≠ b) : Free h c b := by
  refine ⟨hne, fun cs h1 i g o z ag n h2 => ?_⟩
  rw [hc] at h1
  cases h1
  have := List.mem_of_getElem? h2
  simp [BR] at this
theorem free_put {h h' : Heap} {b c c' i : Nat} {vs : List V} {k k' : TBook} {v' : V} {g o z : Nat} {ag : Bool} {n : Nat} (hf : Free h c b) (hrow : getCells h b 120 = some (vs ++ BR k)) (hrow' : getCells h' b 120 = some (vs.set i v' ++ BR k')) (hv' : v' = .hsl c' g o z ag n) (hne : c ≠ c') : Free h' c b := by
  refine ⟨hf.ne, fun cs h1 j g' o' z' ag' n' h2 => ?_⟩
  rw [hrow'] at h1
  cases h1
  have hm := List.mem_of_getElem? h2
  rcases List.mem_append.1 hm with h3 | h3
  · rcases List.mem_or_eq_of_mem_set h3 with h4 | h4
    · obtain ⟨j2, h5⟩ := List.mem_iff_getElem?.1 h4
      have hl := (List.getElem?_eq_some_iff.1 h5).1
      exact hf.no _ hrow j2 g' o' z' ag' n' (by rw [List.getElem?_append_left hl]; exact h5)
    · rw [hv'] at h4
      cases h4
      exact hne rfl
  · simp [BR] at h3
theorem free_fresh {h : Heap} {b c : Nat} {k : TBook} (hv : BookAt h b k) (hc : h.length ≤ c) : Free h c b := by
  have hb := book_lt hv
  obtain ⟨vs, hv⟩ := hv
  refine ⟨by omega, fun cs h1 i g o z ag n h2 => ?_⟩
  rw [hv.row] at h1
  cases h1
  rcases Nat.lt_or_ge i vs.length with hl | hl
  · rw [List.getElem?_append_left hl] at h2
    have hik : i < k.of_.length := by rw [k.h1]; have := hv.len; omega
    rcases hv.own i _ _ h2 (List.getElem?_eq_getElem hik) with ⟨e, _⟩ | ⟨c2, e, hg⟩
    · cases e
    · cases e
      have := gc_lt hg
      omega
  · rw [List.getElem?_append_right hl] at h2
    have := List.mem_of_getElem? h2
    simp [BR] at this
theorem free_get {h h' : Heap} {c g : Nat} (hk : h'[c]? = h[c]?) : getCells h' c g = getCells h c g := getCells_congr hk
section
variable {P : Program} {env : Env} {t : Nat → V} {h : Heap} {K : V → Heap → Prop}
theorem S_idxV {n z : Nat} {ag : Bool} {x i : Operand} : @S P env ⟨(.idxV n z ag x i)⟩ t h ⟨K⟩ = @WO _ (intV (ev t i)) ⟨fun k => (0 ≤ k ∧ k < n ∧ (ev t x).cells.length = n * z ∧ isAggV (ev t x) = true) ∧ @WO _ (rowV ag (((ev t x).cells.drop (k.toNat * z)).take z)) ⟨fun v => K v h⟩⟩ := by
  simp only [S, stepOp, ev_eq, WO_map, WO_bind, WO_ite_none]
  repeat (first | (refine WO_ext fun _ => ?_) | simp only [S, stepOp, ev_eq, WO_map, WO_bind, WO_ite_none])
end
/-- The kinds as cells of a value. -/
def KA (k : TBook) : List V := k.kind.map fun n => .i (.s (.int .i64 n))
theorem KA_len {k : TBook} : (KA k).length = 101 := by unfold KA; rw [List.length_map]; exact k.h2
theorem ip_kinds {k : TBook} : List.map V.i (List.take 101 (List.drop 16 (bookC k))) = KA k := by
  unfold bookC TBook.nums KA
  rw [List.drop_left' (by rw [List.length_map]; exact k.h1), List.map_append, List.take_left' (by rw [List.length_map]; exact k.h2), List.map_map]
  rfl
theorem ip_kinds_len {k : TBook} : 101 ≤ (List.drop 16 (bookC k)).length := by
  rw [List.length_drop, bookC_len]
  omega
theorem KA_at {k : TBook} {i x : Int} (h : get? k.kind i = some x) : List.take 1 (List.drop i.toNat (KA k)) = [.i (.s (.int .i64 x))] := by
  obtain ⟨hlt, he⟩ := List.getElem?_eq_some_iff.1 (get_some h).2.2
  unfold KA
  rw [List.drop_eq_getElem_cons (by rw [List.length_map]; exact hlt), List.getElem_map, he]
  rfl
/-! Rules for an operation's twelve cells, at one stroke. -/
theorem opc_virtC (b : Nat) : virtC [(0, false), (0, false), (0, false), (1, false), (0, false), (0, false), (0, false), (0, false), (0, false), (0, false), (0, false), (0, false)] b [(.int .i64 0), (.int .i64 0), (.int .i64 0), (.slice .none 0 0), (.int .i64 0), (.int .i64 0), (.int .i64 0), (.int .i64 0), (.int .i64 0), (.int .i64 0), (.string ⟨#[]⟩), (.string ⟨#[]⟩)] = [.i (.s (.int .i64 0)), .i (.s (.int .i64 0)), .i (.s (.int .i64 0)), .hsl b 0 0 1 false 0, .i (.s (.int .i64 0)), .i (.s (.int .i64 0)), .i (.s (.int .i64 0)), .i (.s (.int .i64 0)), .i (.s (.int .i64 0)), .i (.s (.int .i64 0)), .i (.s (.string ⟨#[]⟩)), .i (.s (.string ⟨#[]⟩))] := rfl
theorem opc_nilsOf : nilsOf [(.int .i64 0), (.int .i64 0), (.int .i64 0), (.slice .none 0 0), (.int .i64 0), (.int .i64 0), (.int .i64 0), (.int .i64 0), (.int .i64 0), (.int .i64 0), (.string ⟨#[]⟩), (.string ⟨#[]⟩)] = 1 := rfl
theorem opc_virtV (n : Nat) (a b c : Int) (d : List I) (e f g i j k : Int) (l m : ByteArray) : virtV [(0, false), (0, false), (0, false), (1, false), (0, false), (0, false), (0, false), (0, false), (0, false), (0, false), (0, false), (0, false)] n [.i (.s (.int .i64 a)), .i (.s (.int .i64 b)), .i (.s (.int .i64 c)), .i (.sl 1 d), .i (.s (.int .i64 e)), .i (.s (.int .i64 f)), .i (.s (.int .i64 g)), .i (.s (.int .i64 i)), .i (.s (.int .i64 j)), .i (.s (.int .i64 k)), .i (.s (.string l)), .i (.s (.string m))] = [.i (.s (.int .i64 a)), .i (.s (.int .i64 b)), .i (.s (.int .i64 c)), .i (.sl 1 d), .i (.s (.int .i64 e)), .i (.s (.int .i64 f)), .i (.s (.int .i64 g)), .i (.s (.int .i64 i)), .i (.s (.int .i64 j)), .i (.s (.int .i64 k)), .i (.s (.string l)), .i (.s (.string m))] := rfl
theorem opc_nilsV (a b c : Int) (d : List I) (e f g i j k : Int) (l m : ByteArray) : nilsV [.i (.s (.int .i64 a)), .i (.s (.int .i64 b)), .i (.s (.int .i64 c)), .i (.sl 1 d), .i (.s (.int .i64 e)), .i (.s (.int .i64 f)), .i (.s (.int .i64 g)), .i (.s (.int .i64 i)), .i (.s (.int .i64 j)), .i (.s (.int .i64 k)), .i (.s (.string l)), .i (.s (.string m))] = 0 := rfl
theorem opc_one (a b c : Int) (d : List I) (e f g i j k : Int) (l m : ByteArray) : List.all [.i (.s (.int .i64 a)), .i (.s (.int .i64 b)), .i (.s (.int .i64 c)), .i (.sl 1 d), .i (.s (.int .i64 e)), .i (.s (.int .i64 f)), .i (.s (.int .i64 g)), .i (.s (.int .i64 i)), .i (.s (.int .i64 j)), .i (.s (.int .i64 k)), .i (.s (.string l)), .i (.s (.string m))] V.one = true := rfl
theorem opc_splice (c0 c1 c2 c3 c4 c5 c6 c7 c8 c9 c10 c11 y0 y1 y2 y3 y4 y5 y6 y7 y8 y9 y10 y11 : V) : splice [c0, c1, c2, c3, c4, c5, c6, c7, c8, c9, c10, c11] 0 [y0, y1, y2, y3, y4, y5, y6, y7, y8, y9, y10, y11] = [y0, y1, y2, y3, y4, y5, y6, y7, y8, y9, y10, y11] := rfl
theorem opc_virtVw (n : Nat) (a b c : Int) (d n2 n3 : Nat) (e f g i j k : Int) (l m : ByteArray) : virtV [(0, false), (0, false), (0, false), (1, false), (0, false), (0, false), (0, false), (0, false), (0, false), (0, false), (0, false), (0, false)] n [.i (.s (.int .i64 a)), .i (.s (.int .i64 b)), .i (.s (.int .i64 c)), .hsl d n2 0 1 false n3, .i (.s (.int .i64 e)), .i (.s (.int .i64 f)), .i (.s (.int .i64 g)), .i (.s (.int .i64 i)), .i (.s (.int .i64 j)), .i (.s (.int .i64 k)), .i (.s (.string l)), .i (.s (.string m))] = [.i (.s (.int .i64 a)), .i (.s (.int .i64 b)), .i (.s (.int .i64 c)), .hsl d n2 0 1 false n3, .i (.s (.int .i64 e)), .i (.s (.int .i64 f)), .i (.s (.int .i64 g)), .i (.s (.int .i64 i)), .i (.s (.int .i64 j)), .i (.s (.int .i64 k)), .i (.s (.string l)), .i (.s (.string m))] := rfl
theorem opc_nilsVw (a b c : Int) (d n2 n3 : Nat) (e f g i j k : Int) (l m : ByteArray) : nilsV [.i (.s (.int .i64 a)), .i (.s (.int .i64 b)), .i (.s (.int .i64 c)), .hsl d n2 0 1 false n3, .i (.s (.int .i64 e)), .i (.s (.int .i64 f)), .i (.s (.int .i64 g)), .i (.s (.int .i64 i)), .i (.s (.int .i64 j)), .i (.s (.int .i64 k)), .i (.s (.string l)), .i (.s (.string m))] = 0 := rfl
theorem opc_onew (a b c : Int) (d n2 n3 : Nat) (e f g i j k : Int) (l m : ByteArray) : List.all [.i (.s (.int .i64 a)), .i (.s (.int .i64 b)), .i (.s (.int .i64 c)), .hsl d n2 0 1 false n3, .i (.s (.int .i64 e)), .i (.s (.int .i64 f)), .i (.s (.int .i64 g)), .i (.s (.int .i64 i)), .i (.s (.int .i64 j)), .i (.s (.int .i64 k)), .i (.s (.string l)), .i (.s (.string m))] V.one = true := rfl
theorem ofI1_ob {x : Option TBook} : ofI1 (enc x) = .i (enc x) := by cases x <;> rfl
theorem dec_obx {x : Option TBook} : (Pic.dec (Pic.enc x) : Option (Option TBook)) = some x := Pic.dec_enc x
/-- Short names in the code of functions. -/
def qS (d : Nat) (x : AOp) : AOper := ⟨some d, x, none, [], none⟩
def ic (n : Int) : Operand := .const (.int .i64 n)
theorem W_qS {P : Program} {env : Env} {t : Nat → V} {h : Heap} {Q : Post} {d : Nat} {op : AOp} {l : List AOper} : @W P env ⟨(.ops (qS d op :: l))⟩ t h ⟨Q⟩ = @S P env ⟨op⟩ t h ⟨fun v h' => @W P env ⟨(.ops l)⟩ (put t (some d) v) h' ⟨Q⟩⟩ := W_op
theorem ic_eq {n : Int} : ic n = .const (.int .i64 n) := rfl
theorem tn (n : Nat) : Int.toNat (no_index (OfNat.ofNat n)) = n := rfl
theorem opc : type_of% (And.intro (And.intro (And.intro @opc_virtC @opc_nilsOf) (And.intro @opc_virtV @opc_nilsV)) (And.intro (And.intro @opc_one @opc_splice) (And.intro @opc_virtVw (And.intro @opc_nilsVw @opc_onew)))) := (And.intro (And.intro (And.intro @opc_virtC @opc_nilsOf) (And.intro @opc_virtV @opc_nilsV)) (And.intro (And.intro @opc_one @opc_splice) (And.intro @opc_virtVw (And.intro @opc_nilsVw @opc_onew))))
theorem gx : type_of% (And.intro (And.intro (And.intro (And.intro @gs @idxA_ptr) (And.intro @idxA_ip (And.intro @retV_nil @at_app))) (And.intro (And.intro @at_app_set @enc_ob) (And.intro @enc_on (And.intro @dec_ob @dec_on)))) (And.intro (And.intro (And.intro @ofI_ob @cells_ob) (And.intro @bookC_len (And.intro @ev_ptr @ofI1_ob))) (And.intro (And.intro @dec_obx @S_idxV) (And.intro @tn (And.intro @W_qS @ic_eq))))) := (And.intro (And.intro (And.intro (And.intro @gs @idxA_ptr) (And.intro @idxA_ip (And.intro @retV_nil @at_app))) (And.intro (And.intro @at_app_set @enc_ob) (And.intro @enc_on (And.intro @dec_ob @dec_on)))) (And.intro (And.intro (And.intro @ofI_ob @cells_ob) (And.intro @bookC_len (And.intro @ev_ptr @ofI1_ob))) (And.intro (And.intro @dec_obx @S_idxV) (And.intro @tn (And.intro @W_qS @ic_eq)))))
theorem ls : type_of% (And.intro (And.intro @List.length_set.{0} (And.intro @List.length_append.{0} @List.length_cons.{0})) (And.intro @List.length_nil.{0} (And.intro @rows_len @zs))) := (And.intro (And.intro @List.length_set.{0} (And.intro @List.length_append.{0} @List.length_cons.{0})) (And.intro @List.length_nil.{0} (And.intro @rows_len @zs)))
end Go.AM
