/- Operations that may be turned round. No condition. -/
import Derived.Test.YtogokiglmhnjkaaLabB16a
set_option linter.unusedVariables false
set_option linter.unusedSimpArgs false
namespace Go.AM

def Operand.tm : Operand → List Nat
  | .tmp k => [k]
  | _ => []

/-- The temporaries that an operation looks at. -/
def AOp.uses : AOp → List Nat
  | .mv x | .box x | .nilChk x | .fieldA _ x | .field _ _ _ x | .len x | .extract _ x | .b2s x | .ifc _ x | .load _ _ x | .mlen x => Operand.tm x
  | .pick c a b => Operand.tm c ++ Operand.tm a ++ Operand.tm b
  | .pu _ xs => xs.flatMap Operand.tm
  | .alloc _ | .allocV _ _ | .vnil _ _ | .makeMap => []
  | .build _ parts => parts.flatMap fun p => Operand.tm p.2.2
  | .buildSl _ _ _ _ parts => parts.flatMap fun p => Operand.tm p.2
  | .store _ a x | .storeV _ _ a x | .aeq _ _ a x => Operand.tm a ++ Operand.tm x
  | .idxS _ x i | .idxA _ _ x i | .idxV _ _ _ x i => Operand.tm x ++ Operand.tm i
  | .slice _ x lo hi | .sliceA _ _ _ x lo hi => Operand.tm x ++ (lo.toList ++ hi.toList).flatMap Operand.tm
  | .append _ _ _ s x => Operand.tm s ++ Operand.tm x
  | .makeSl _ _ _ _ l c => Operand.tm l ++ Operand.tm c
  | .clo _ caps => caps.flatMap Operand.tm
  | .lookup _ _ _ _ _ m k | .del _ _ m k => Operand.tm m ++ Operand.tm k
  | .mapSet _ _ m k x => Operand.tm m ++ Operand.tm k ++ Operand.tm x
  | .call _ args | .callV _ _ args => args.flatMap Operand.tm
  | .appendV _ _ _ x => Operand.tm x
  | .dyn f args => Operand.tm f ++ args.flatMap Operand.tm

def AOper.looks (o : AOper) : List Nat := o.op.uses ++ match o.guard with | some (d, _) => [d] | none => []
def AOper.watch (o : AOper) : List Nat := o.apart.flatMap Operand.tm

inductive Cls where
  | q | r | a | e
  | s (k : Nat)

/-- q: looks at nothing but its operands. r: reads memory. a: lays one block. e: any other. -/
def AOp.cls (pur : Nat → Bool) : AOp → Cls
  | .mv _ | .pick .. | .pu .. | .extract .. | .nilChk _ | .fieldA .. | .field .. | .idxA .. | .idxV .. | .build .. | .clo .. | .ifc .. | .len _ | .slice .. | .aeq .. => .q
  | .load .. | .idxS .. | .sliceA .. | .b2s _ | .lookup .. | .mlen _ => .r
  | .makeMap | .alloc _ | .box _ | .buildSl .. | .makeSl .. => .a
  | .call f _ => if pur f then (if f % 2 == 0 then .r else .a) else .e
  | _ => .e

/-- Operations that lay one block. -/
def AOp.lays : AOp → Bool
  | .makeMap | .alloc _ | .box _ | .buildSl .. | .makeSl .. => true
  | _ => false

/-- The same of an operation in its place: s: lays its block where it is kept free. -/
def AOper.cls (pur : Nat → Bool) (o : AOper) : Cls :=
  match o.slot with
  | none => o.op.cls pur
  | some k => if o.op.lays then .s k else .e

def Cls.swap : Cls → Cls → Bool
  | .q, _ | _, .q | .r, .r | .r, .a | .r, .s _ | .a, .s _ => true
  | .s k, .s m => k != m
  | _, _ => false

/-- What a reading operation reads through. -/
def addrOf : AOp → Option Nat
  | .load _ _ (.tmp a) | .idxS _ (.tmp a) _ | .sliceA _ _ _ (.tmp a) _ _ | .b2s (.tmp a) => some a
  | _ => none

def Cls.ar : Cls → Cls → Bool
  | .a, .r | .s _, .r => true
  | _, _ => false

def Cls.isS : Cls → Bool
  | .s _ => true
  | _ => false

def swapOK (pur : Nat → Bool) (x y : AOper) : Bool :=
  (Cls.swap (x.cls pur) (y.cls pur) || (Cls.ar (x.cls pur) (y.cls pur) && (addrOf y.op).isSome)) && (!(y.cls pur).isS || x.apart.isEmpty) &&
  (match x.dst with | some d => !(y.looks).contains d && y.dst != some d | none => true) &&
  (match y.dst with | some d => !(x.looks ++ x.watch).contains d | none => true)


def Cls.isE : Cls → Bool
  | .e => true
  | _ => false
def Cls.isR : Cls → Bool
  | .r => true
  | _ => false
def Cls.isQ : Cls → Bool
  | .q => true
  | _ => false

/-- x ahead of y, y writes: x may come behind it too, for what it reads is not what y writes. -/
def watchOK (pur : Nat → Bool) (al : List AOper) (j i : Nat) (x y : AOper) : Bool :=
  (y.cls pur).isE && x.apart.isEmpty &&
  (match x.dst with | some d => !(y.looks).contains d && y.dst != some d | none => true) &&
  (match y.dst with | some d => !(x.looks).contains d | none => true) &&
  ((x.cls pur).isQ || ((x.cls pur).isR && match addrOf x.op with
    | some a => y.watch.contains a && (List.range i).all (fun k => k < j || match al[k]? with | some z => z.dst != some a | none => true)
    | none => false))

/-- What is there stays; what was kept free may have been filled. -/
def Up (h h2 : Heap) : Prop := ∀ (b : Nat) (s : Slot), h[b]? = some s → s ≠ Slot.free → h2[b]? = some s

/-- What is asked of a function whose place in a region is open: it changes nothing (even codes), or it lays blocks behind all others (odd ones). -/
def PurEnv (env : Env) (f : Nat) : Prop :=
  (f % 2 = 0 → ∀ slot args h v h', env f slot args h = some (v, h') → h' = h ∧ ∀ h2, Up h h2 → env f slot args h2 = some (v, h2)) ∧
  (f % 2 = 1 → ∀ slot args h v h', env f slot args h = some (v, h') → ∃ l, h' = h ++ l ∧ (∀ s, s ∈ l → s ≠ .free) ∧ ∀ h2, h2.length = h.length → Up h h2 → env f slot args h2 = some (v, h2 ++ l))

theorem Up.push {h : Heap} (s : Slot) : Up h (h ++ [s]) := by
  intro b s' hb _
  rw [List.getElem?_append_left (List.getElem?_eq_some_iff.1 hb).1]
  exact hb

theorem Up.append {h : Heap} (l : Heap) : Up h (h ++ l) := by
  intro b s' hb _
  rw [List.getElem?_append_left (List.getElem?_eq_some_iff.1 hb).1]
  exact hb

theorem Up.set {h : Heap} {b : Nat} (s : Slot) (hf : h[b]? = some .free) : Up h (h.set b s) := by
  intro b' s' hb hn
  by_cases e : b = b'
  · subst e
    rw [hf] at hb
    cases hb
    exact absurd rfl hn
  · rw [List.getElem?_set_ne e]
    exact hb

section
variable {P : Program} {env : Env} {pur : Nat → Bool} {t t' : Nat → V} {h h' : Heap}

theorem ev_congr {x : Operand} (hx : ∀ k, k ∈ Operand.tm x → t' k = t k) : St.ev ⟨t', h'⟩ x = St.ev ⟨t, h⟩ x := by
  cases x with
  | tmp k => exact hx k (by simp [Operand.tm])
  | _ => rfl

theorem evs_congr {xs : List Operand} (hx : ∀ k, k ∈ xs.flatMap Operand.tm → t' k = t k) : xs.map (St.ev ⟨t', h'⟩) = xs.map (St.ev ⟨t, h⟩) := by
  apply List.map_congr_left
  intro o ho
  exact ev_congr fun k hk => hx k (List.mem_flatMap.2 ⟨o, ho, hk⟩)

theorem fillV_congr : ∀ {parts : List (Nat × Nat × Operand)} {cs : List V}, (∀ k, k ∈ (parts.flatMap fun p => Operand.tm p.2.2) → t' k = t k) → fillV ⟨t', h'⟩ cs parts = fillV ⟨t, h⟩ cs parts
  | [], _, _ => rfl
  | (off, size, x) :: rest, cs, hx => by
    have e : St.ev ⟨t', h'⟩ x = St.ev ⟨t, h⟩ x := ev_congr fun k hk => hx k (by simp [hk])
    simp only [fillV, e]
    split
    · exact fillV_congr fun k hk => hx k (by simp only [List.flatMap_cons, List.mem_append]; exact .inr hk)
    · rfl

theorem bounds_congr {lo hi : Option Operand} (hx : ∀ k, k ∈ (lo.toList ++ hi.toList).flatMap Operand.tm → t' k = t k) : bounds ⟨t', h'⟩ lo hi = bounds ⟨t, h⟩ lo hi := by
  funext len
  have e1 : boundHi ⟨t', h'⟩ hi len = boundHi ⟨t, h⟩ hi len := by
    cases hi with
    | none => rfl
    | some o => simp only [boundHi]; rw [ev_congr fun k hk => hx k (by simp [hk])]
  have e2 : ∀ n, boundLo ⟨t', h'⟩ lo n = boundLo ⟨t, h⟩ lo n := by
    intro n
    cases lo with
    | none => rfl
    | some o => simp only [boundLo]; rw [ev_congr fun k hk => hx k (by simp [hk])]
  simp only [bounds, e1, e2]

theorem stepOp_congr {slot : Option Nat} {op : AOp} (hx : ∀ k, k ∈ op.uses → t' k = t k) : stepOp P env slot op ⟨t', h⟩ = stepOp P env slot op ⟨t, h⟩ := by
  cases op <;> simp only [AOp.uses, List.mem_append, or_imp, forall_and] at hx <;> simp only [stepOp]
  all_goals first
    | rfl
    | (rw [ev_congr (t' := t') (t := t) (h' := h) (h := h) hx]; done)
    | (rw [evs_congr (t' := t') (t := t) (h' := h) (h := h) hx]; done)
    | (rw [fillV_congr (t' := t') (t := t) (h' := h) (h := h) hx]; done)
    | (rw [ev_congr (t' := t') (t := t) (h' := h) (h := h) hx.1, ev_congr (t' := t') (t := t) (h' := h) (h := h) hx.2]; done)
    | (rw [ev_congr (t' := t') (t := t) (h' := h) (h := h) hx.1.1, ev_congr (t' := t') (t := t) (h' := h) (h := h) hx.1.2, ev_congr (t' := t') (t := t) (h' := h) (h := h) hx.2]; done)
    | (rw [ev_congr (t' := t') (t := t) (h' := h) (h := h) hx.1, bounds_congr (t' := t') (t := t) (h' := h) (h := h) (by simpa [List.flatMap_append, or_imp, forall_and] using hx.2)]; done)
    | (rw [ev_congr (t' := t') (t := t) (h' := h) (h := h) hx.1, evs_congr (t' := t') (t := t) (h' := h) (h := h) hx.2]; done)
    | (rw [fillV_congr (t' := t') (t := t) (h' := h) (h := h) (by simpa [List.flatMap_map] using hx)]; done)

/-- What an operation of class q says holds over any memory. -/
theorem cls_q {op : AOp} (hc : op.cls pur = .q) {v : V} (he : stepOp P env none op ⟨t, h⟩ = some (v, h')) : h' = h ∧ ∀ h2, stepOp P env none op ⟨t, h2⟩ = some (v, h2) := by
  have hev : ∀ h2 x, St.ev ⟨t, h2⟩ x = St.ev ⟨t, h⟩ x := fun h2 x => ev_congr fun _ _ => rfl
  have hevs : ∀ h2 (xs : List Operand), xs.map (St.ev ⟨t, h2⟩) = xs.map (St.ev ⟨t, h⟩) := fun h2 xs => evs_congr fun _ _ => rfl
  have hf : ∀ h2 cs parts, fillV ⟨t, h2⟩ cs parts = fillV ⟨t, h⟩ cs parts := fun h2 cs parts => fillV_congr fun _ _ => rfl
  have hbd : ∀ h2 lo hi, bounds ⟨t, h2⟩ lo hi = bounds ⟨t, h⟩ lo hi := fun h2 lo hi => bounds_congr fun _ _ => rfl
  cases op <;> simp only [AOp.cls] at hc <;> (try cases hc) <;> simp only [stepOp] at he ⊢
  case call => split at hc <;> (try split at hc) <;> cases hc
  case aeq neg ks x y =>
    obtain ⟨p, h1, he⟩ := Option.bind_eq_some_iff.1 he
    obtain ⟨q, h2, he⟩ := Option.bind_eq_some_iff.1 he
    split at he
    · rename_i hc
      cases he
      exact ⟨rfl, fun h3 => by rw [hev, h1, Option.bind_some, hev, h2, Option.bind_some, if_pos hc]⟩
    · cases he
  case mv x => cases he; exact ⟨rfl, fun h2 => by rw [hev]⟩
  case pick c a b =>
    simp only [hev] at he ⊢
    split at he
    · rename_i f b' hb
      cases he
      refine ⟨rfl, fun h2 => ?_⟩
      simp only [hev h2, hb]
    · cases he
  case pu p xs =>
    obtain ⟨vs, h1, he⟩ := Option.bind_eq_some_iff.1 he
    obtain ⟨u, h2, he⟩ := Option.bind_eq_some_iff.1 he
    obtain ⟨y, h3, he⟩ := Option.map_eq_some_iff.1 he
    cases he
    refine ⟨rfl, fun hh => ?_⟩
    rw [hevs hh, h1]
    simp [h2, h3]
  case build zero parts =>
    obtain ⟨y, h3, he⟩ := Option.map_eq_some_iff.1 he
    cases he
    exact ⟨rfl, fun hh => by rw [hf hh, h3]; rfl⟩
  case nilChk x =>
    obtain ⟨y, h3, he⟩ := Option.map_eq_some_iff.1 he
    cases he
    exact ⟨rfl, fun hh => by rw [hev hh, h3]; rfl⟩
  case fieldA off x =>
    obtain ⟨y, h3, he⟩ := Option.map_eq_some_iff.1 he
    cases he
    exact ⟨rfl, fun hh => by rw [hev hh, h3]; rfl⟩
  case field off z ag x =>
    split at he
    · rename_i hcc
      obtain ⟨y, h3, he⟩ := Option.map_eq_some_iff.1 he
      cases he
      exact ⟨rfl, fun hh => by rw [hev hh, if_pos hcc, h3]; rfl⟩
    · cases he
  case idxA n z x i =>
    obtain ⟨k, h1, he⟩ := Option.bind_eq_some_iff.1 he
    split at he
    · rename_i hcc
      obtain ⟨y, h3, he⟩ := Option.map_eq_some_iff.1 he
      cases he
      refine ⟨rfl, fun hh => ?_⟩
      rw [hev hh, hev hh, h1, Option.bind_some, if_pos hcc, h3]; rfl
    · cases he
  case idxV n z ag x i =>
    obtain ⟨k, h1, he⟩ := Option.bind_eq_some_iff.1 he
    split at he
    · rename_i hcc
      obtain ⟨y, h3, he⟩ := Option.map_eq_some_iff.1 he
      cases he
      refine ⟨rfl, fun hh => ?_⟩
      rw [hev hh, hev hh, h1, Option.bind_some, if_pos hcc, h3]; rfl
    · cases he
  case slice z x lo hi =>
    obtain ⟨y, h3, he⟩ := Option.map_eq_some_iff.1 he
    cases he
    refine ⟨rfl, fun hh => ?_⟩
    rw [hev hh, hbd hh, h3]; rfl
  case len x =>
    obtain ⟨y, h3, he⟩ := Option.map_eq_some_iff.1 he
    cases he
    exact ⟨rfl, fun hh => by rw [hev hh, h3]; rfl⟩
  case extract k x =>
    obtain ⟨y, h3, he⟩ := Option.map_eq_some_iff.1 he
    cases he
    exact ⟨rfl, fun hh => by rw [hev hh, h3]; rfl⟩
  case clo f caps => cases he; exact ⟨rfl, fun h2 => by rw [hevs h2]⟩
  case ifc k x => cases he; exact ⟨rfl, fun h2 => by rw [hev h2]⟩

theorem getCells_up {h2 : Heap} {b g : Nat} {cs : List V} (u : Up h h2) (e : getCells h b g = some cs) : getCells h2 b g = some cs := by
  unfold getCells at e ⊢
  split at e
  · rename_i hb
    rw [u _ _ hb (by intro e; cases e)]
    exact e
  · rename_i hb
    rw [u _ _ hb (by intro e; cases e)]
    exact e
  · cases e

theorem stepLoad_up {h2 : Heap} {z : Nat} {ag : Bool} {x v : V} (u : Up h h2) (e : stepLoad z ag h x = some v) : stepLoad z ag h2 x = some v := by
  unfold stepLoad at e ⊢
  split at e
  · obtain ⟨cs, h1, h2⟩ := Option.bind_eq_some_iff.1 e
    simp only [getCells_up u h1, Option.bind_some]
    exact h2
  · exact e
  · cases e

theorem stepIdxS_up {h2 : Heap} {z : Nat} {n : Int} {x v : V} (u : Up h h2) (e : stepIdxS z h n x = some v) : stepIdxS z h2 n x = some v := by
  unfold stepIdxS at e ⊢
  split at e
  · split at e
    · rename_i hc
      obtain ⟨cs, h1, h2⟩ := Option.map_eq_some_iff.1 e
      simp only [if_pos hc, getCells_up u h1, Option.map_some, h2]
    · cases e
  · exact e
  · cases e

theorem stepSliceA_up {h2 : Heap} {n z : Nat} {ag : Bool} {bd : Nat → Option (Nat × Nat)} {x v : V} (u : Up h h2) (e : stepSliceA n z ag bd h x = some v) : stepSliceA n z ag bd h2 x = some v := by
  unfold stepSliceA at e ⊢
  split at e
  · obtain ⟨p, h1, e⟩ := Option.bind_eq_some_iff.1 e
    obtain ⟨cs, h2, e⟩ := Option.bind_eq_some_iff.1 e
    simp only [h1, Option.bind_some, getCells_up u h2, e]
  · cases e

theorem srcCells_up {h2 : Heap} {x : V} {ys : List V} (u : Up h h2) (e : srcCells h x = some ys) : srcCells h2 x = some ys := by
  unfold srcCells at e ⊢
  split at e
  · obtain ⟨cs, h2, e⟩ := Option.map_eq_some_iff.1 e
    simp only [getCells_up u h2, Option.map_some, e]
  · exact e
  · exact e
  · exact e
  · cases e

theorem mapAt_up {h2 : Heap} {x : V} {q : Nat × List I × List V} (u : Up h h2) (e : mapAt h x = some q) : mapAt h2 x = some q := by
  unfold mapAt at e ⊢
  split at e
  · split at e
    · rename_i hb
      rw [u _ _ hb (by intro e; cases e)]
      exact e
    · cases e
  · cases e

theorem cls_r {op : AOp} (hpur : ∀ f, pur f = true → PurEnv env f) (hc : op.cls pur = .r) {v : V} (he : stepOp P env none op ⟨t, h⟩ = some (v, h')) :
    h' = h ∧ ∀ h2, Up h h2 → stepOp P env none op ⟨t, h2⟩ = some (v, h2) := by
  have hev : ∀ h2 x, St.ev ⟨t, h2⟩ x = St.ev ⟨t, h⟩ x := fun h2 x => ev_congr fun _ _ => rfl
  have hevs : ∀ h2 (xs : List Operand), xs.map (St.ev ⟨t, h2⟩) = xs.map (St.ev ⟨t, h⟩) := fun h2 xs => evs_congr fun _ _ => rfl
  have hbd : ∀ h2 lo hi, bounds ⟨t, h2⟩ lo hi = bounds ⟨t, h⟩ lo hi := fun h2 lo hi => bounds_congr fun _ _ => rfl
  cases op <;> simp only [AOp.cls] at hc <;> (try cases hc) <;> simp only [stepOp] at he ⊢
  case load z ag a =>
    obtain ⟨y, h3, he⟩ := Option.map_eq_some_iff.1 he
    cases he
    exact ⟨rfl, fun h2 u => by rw [hev, stepLoad_up u h3]; rfl⟩
  case idxS z x i =>
    obtain ⟨k, h1, he⟩ := Option.bind_eq_some_iff.1 he
    obtain ⟨y, h3, he⟩ := Option.map_eq_some_iff.1 he
    cases he
    exact ⟨rfl, fun h2 u => by rw [hev _ i, h1, Option.bind_some, hev _ x, stepIdxS_up u h3]; rfl⟩
  case sliceA n z ag x lo hi =>
    obtain ⟨y, h3, he⟩ := Option.map_eq_some_iff.1 he
    cases he
    exact ⟨rfl, fun h2 u => by rw [hev, hbd, stepSliceA_up u h3]; rfl⟩
  case b2s x =>
    obtain ⟨ys, h1, he⟩ := Option.bind_eq_some_iff.1 he
    obtain ⟨n, h2, he⟩ := Option.bind_eq_some_iff.1 he
    obtain ⟨bs, h3, he⟩ := Option.bind_eq_some_iff.1 he
    split at he
    · rename_i hl
      cases he
      refine ⟨rfl, fun h2 u => ?_⟩
      rw [hev, srcCells_up u h1, Option.bind_some, ‹lenS _ = some n›, Option.bind_some, h3, Option.bind_some, if_pos hl]
    · cases he
  case lookup kg ks ag zero ok m k =>
    obtain ⟨q, h1, he⟩ := Option.bind_eq_some_iff.1 he
    obtain ⟨l, h2, he⟩ := Option.bind_eq_some_iff.1 he
    obtain ⟨cs, h3, he⟩ := Option.bind_eq_some_iff.1 he
    split at he
    · rename_i hl
      obtain ⟨y, h4, he⟩ := Option.map_eq_some_iff.1 he
      cases he
      refine ⟨rfl, fun hh u => ?_⟩
      rw [hev _ m, hev _ k, mapAt_up u h1, Option.bind_some, h2, Option.bind_some, h3, Option.bind_some, if_pos hl, h4]; rfl
    · cases he
  case mlen m =>
    obtain ⟨y, h3, he⟩ := Option.map_eq_some_iff.1 he
    cases he
    exact ⟨rfl, fun h2 u => by rw [hev, mapAt_up u h3]; rfl⟩
  case call f args =>
    split at hc
    · rename_i hp
      split at hc
      · rename_i he2
        obtain ⟨rfl, h2⟩ := (hpur f hp).1 (by simpa using he2) _ _ _ _ _ he
        refine ⟨rfl, fun hh u => ?_⟩
        rw [hevs]
        exact h2 hh u
      · cases hc
    · cases hc

theorem cls_a {op : AOp} (hpur : ∀ f, pur f = true → PurEnv env f) (hc : op.cls pur = .a) {v : V} (he : stepOp P env none op ⟨t, h⟩ = some (v, h')) :
    ∃ l, h' = h ++ l ∧ (∀ s, s ∈ l → s ≠ .free) ∧ ∀ h2, h2.length = h.length → Up h h2 → stepOp P env none op ⟨t, h2⟩ = some (v, h2 ++ l) := by
  have hev : ∀ h2 x, St.ev ⟨t, h2⟩ x = St.ev ⟨t, h⟩ x := fun h2 x => ev_congr fun _ _ => rfl
  have hevs : ∀ h2 (xs : List Operand), xs.map (St.ev ⟨t, h2⟩) = xs.map (St.ev ⟨t, h⟩) := fun h2 xs => evs_congr fun _ _ => rfl
  have hf : ∀ h2 cs parts, fillV ⟨t, h2⟩ cs parts = fillV ⟨t, h⟩ cs parts := fun h2 cs parts => fillV_congr fun _ _ => rfl
  cases op <;> simp only [AOp.cls] at hc <;> (try cases hc) <;> simp only [stepOp] at he ⊢
  case call f args =>
    split at hc
    · rename_i hp
      split at hc
      · cases hc
      · rename_i he2
        obtain ⟨l, rfl, h0, h2⟩ := (hpur f hp).2 (by simp at he2; exact he2) _ _ _ _ _ he
        refine ⟨l, rfl, h0, fun hh hl u => ?_⟩
        rw [hevs]
        exact h2 hh hl u
    · cases hc
  case alloc zero =>
    simp only [newSlot, Option.map_some, Option.some.injEq, Prod.mk.injEq] at he
    refine ⟨_, he.2.symm, by simp, fun h2 hl u => ?_⟩
    simp only [newSlot, Option.map_some, hl, he.1]
  case makeMap =>
    simp only [newSlot, Option.map_some, Option.some.injEq, Prod.mk.injEq] at he
    refine ⟨_, he.2.symm, by simp, fun h2 hl u => ?_⟩
    simp only [newSlot, Option.map_some, hl, he.1]
  case box x =>
    split at he
    · rename_i hx
      simp only [newSlot, Option.map_some, Option.some.injEq, Prod.mk.injEq] at he
      refine ⟨_, he.2.symm, by simp, fun h2 hl u => ?_⟩
      simp only [hev h2, if_pos hx, newSlot, Option.map_some, hl, he.1]
    · cases he
  case buildSl z ag n zero parts =>
    obtain ⟨y, h3, he⟩ := Option.bind_eq_some_iff.1 he
    simp only [newSlot, Option.map_some, Option.some.injEq, Prod.mk.injEq] at he
    refine ⟨_, he.2.symm, by simp, fun h2 hl u => ?_⟩
    simp only [hf h2, h3, Option.bind_some, newSlot, Option.map_some, hl, he.1]
  case makeSl z ag bytes zero l c =>
    obtain ⟨y, h3, he⟩ := Option.bind_eq_some_iff.1 he
    obtain ⟨y2, h4, he⟩ := Option.bind_eq_some_iff.1 he
    split at he
    · rename_i hcc
      simp only [newSlot, Option.map_some, Option.some.injEq, Prod.mk.injEq] at he
      refine ⟨_, he.2.symm, by simp, fun h2 hl u => ?_⟩
      simp only [hev h2, h3, h4, Option.bind_some, if_pos hcc, newSlot, Option.map_some, hl, he.1]
    · cases he

/-- What is laid where it was kept free. -/
theorem cls_s {op : AOp} (hc : op.lays = true) {b : Nat} {v : V} (he : stepOp P env (some b) op ⟨t, h⟩ = some (v, h')) :
    h[b]? = some .free ∧ ∃ s, s ≠ .free ∧ h' = h.set b s ∧ ∀ h2, h2[b]? = some .free → stepOp P env (some b) op ⟨t, h2⟩ = some (v, h2.set b s) := by
  have hev : ∀ h2 x, St.ev ⟨t, h2⟩ x = St.ev ⟨t, h⟩ x := fun h2 x => ev_congr fun _ _ => rfl
  have hf : ∀ h2 cs parts, fillV ⟨t, h2⟩ cs parts = fillV ⟨t, h⟩ cs parts := fun h2 cs parts => fillV_congr fun _ _ => rfl
  have hn : ∀ (s : Slot) (f : Nat → V), s ≠ .free → ((newSlot (some b) h s).map fun p => (f p.1, p.2)) = some (v, h') → h[b]? = some .free ∧ h' = h.set b s ∧ ∀ h2, h2[b]? = some .free → ((newSlot (some b) h2 s).map fun p => (f p.1, p.2)) = some (v, h2.set b s) := by
    intro s f hs e
    obtain ⟨p, h1, h2⟩ := Option.map_eq_some_iff.1 e
    unfold newSlot at h1
    simp only at h1
    split at h1
    · rename_i hb
      cases h1
      simp only [Prod.mk.injEq] at h2
      refine ⟨hb, h2.2.symm, fun h3 hb3 => ?_⟩
      simp only [newSlot, hb3, Option.map_some, h2.1]
    · cases h1
  cases op <;> simp only [AOp.lays] at hc <;> (try cases hc) <;> simp only [stepOp] at he ⊢
  case alloc zero =>
    obtain ⟨e1, e2, e3⟩ := hn (.cells (ivs zero)) (fun b => .ptr b zero.length 0) (by intro e; cases e) he
    exact ⟨e1, _, (by intro e; cases e), e2, e3⟩
  case makeMap =>
    obtain ⟨e1, e2, e3⟩ := hn (.map [] []) (fun b => .mp b) (by intro e; cases e) he
    exact ⟨e1, _, (by intro e; cases e), e2, e3⟩
  case box x =>
    split at he
    · rename_i hx
      obtain ⟨e1, e2, e3⟩ := hn (.cells (St.ev ⟨t, h⟩ x).cells) (fun b => .ptr b (St.ev ⟨t, h⟩ x).cells.length 0) (by intro e; cases e) he
      refine ⟨e1, _, (by intro e; cases e), e2, fun h2 hb => ?_⟩
      simp only [hev h2, if_pos hx]
      exact e3 h2 hb
    · cases he
  case buildSl z ag n zero parts =>
    obtain ⟨y, h3, he⟩ := Option.bind_eq_some_iff.1 he
    obtain ⟨e1, e2, e3⟩ := hn (.cells y) (fun b => .hsl b y.length 0 z ag n) (by intro e; cases e) he
    refine ⟨e1, _, (by intro e; cases e), e2, fun h2 hb => ?_⟩
    simp only [hf h2, h3, Option.bind_some]
    exact e3 h2 hb
  case makeSl z ag bytes zero l c =>
    obtain ⟨y, h3, he⟩ := Option.bind_eq_some_iff.1 he
    obtain ⟨y2, h4, he⟩ := Option.bind_eq_some_iff.1 he
    split at he
    · rename_i hcc
      obtain ⟨e1, e2, e3⟩ := hn (.cells ((List.replicate y.toNat (ivs zero)).flatten)) (fun b => .hsl b (y.toNat * z) 0 z ag y.toNat) (by intro e; cases e) he
      refine ⟨e1, _, (by intro e; cases e), e2, fun h2 hb => ?_⟩
      simp only [hev h2, h3, h4, Option.bind_some, if_pos hcc]
      exact e3 h2 hb
    · cases he

theorem cls_none {o : AOper} {c : Cls} (h : o.cls pur = c) (h1 : ∀ k, c ≠ .s k) (h2 : c ≠ .e) : o.slot = none ∧ o.op.cls pur = c := by
  unfold AOper.cls at h
  cases hs : o.slot with
  | none => rw [hs] at h; exact ⟨rfl, h⟩
  | some k =>
    rw [hs] at h
    simp only at h
    split at h
    · exact absurd h.symm (h1 k)
    · exact absurd h.symm h2

theorem slot_none {o : AOper} (h : o.slot = none) (bs : Option Nat) : slotOf bs o = some none := by unfold slotOf; rw [h]

theorem wantedA_congr {o : AOper} (hx : ∀ k, k ∈ o.looks → t' k = t k) : wantedA o t' = wantedA o t := by
  unfold wantedA AOper.looks at *
  cases hg : o.guard with
  | none => rfl
  | some p =>
    obtain ⟨d, want⟩ := p
    simp only [hg] at hx ⊢
    rw [hx d (by simp)]

theorem put_ne {d : Option Nat} {v : V} {k : Nat} (hk : ∀ n, d = some n → k ≠ n) : put t d v k = t k := by
  cases d with
  | none => rfl
  | some n => simp only [put]; rw [if_neg (hk n rfl)]

theorem put_comm {d e : Option Nat} {u v : V} (hk : ∀ n, d = some n → e ≠ some n) : put (put t d u) e v = put (put t e v) d u := by
  cases d with
  | none => rfl
  | some n =>
    cases e with
    | none => rfl
    | some m =>
      have : n ≠ m := fun e => hk n rfl (by rw [e])
      funext k
      simp only [put]
      by_cases h1 : k = m
      · subst h1; rw [if_pos rfl, if_neg (Ne.symm this), if_pos rfl]
      · rw [if_neg h1]
        by_cases h2 : k = n
        · rw [if_pos h2, if_pos h2]
        · rw [if_neg h2, if_neg h2, if_neg h1]

theorem outA_congr {bs : Option Nat} {o : AOper} (hx : ∀ k, k ∈ o.looks → t' k = t k) : outA P env bs o t' h = outA P env bs o t h := by
  unfold outA
  have e : ∀ slot, stepOp P env slot o.op ⟨t', h⟩ = stepOp P env slot o.op ⟨t, h⟩ := fun slot => stepOp_congr fun k hk => hx k (by simp [AOper.looks, hk])
  simp only [wantedA_congr hx, e]

theorem outA_q {bs : Option Nat} {o : AOper} (hc : o.cls pur = .q) {v : V} (he : outA P env bs o t h = some (v, h')) : h' = h ∧ ∀ h2, outA P env bs o t h2 = some (v, h2) := by
  obtain ⟨hs, hc⟩ := cls_none hc (by intro k e; cases e) (by intro e; cases e)
  unfold outA at he ⊢
  simp only [slot_none hs, Option.bind_some] at he ⊢
  obtain ⟨b, h1, he⟩ := Option.bind_eq_some_iff.1 he
  cases b with
  | true =>
    simp only [h1, Option.bind_some, if_true] at he ⊢
    exact cls_q hc he
  | false =>
    simp only [Bool.false_eq_true, if_false] at he
    cases he
    exact ⟨rfl, fun h2 => by simp [h1]⟩

theorem outA_r {bs : Option Nat} {o : AOper} (hpur : ∀ f, pur f = true → PurEnv env f) (hc : o.cls pur = .r) {v : V} (he : outA P env bs o t h = some (v, h')) : h' = h ∧ ∀ h2, Up h h2 → outA P env bs o t h2 = some (v, h2) := by
  obtain ⟨hs, hc⟩ := cls_none hc (by intro k e; cases e) (by intro e; cases e)
  unfold outA at he ⊢
  simp only [slot_none hs, Option.bind_some] at he ⊢
  obtain ⟨b, h1, he⟩ := Option.bind_eq_some_iff.1 he
  cases b with
  | true =>
    simp only [h1, Option.bind_some, if_true] at he ⊢
    exact cls_r hpur hc he
  | false =>
    simp only [Bool.false_eq_true, if_false] at he
    cases he
    exact ⟨rfl, fun h2 _ => by simp [h1]⟩

theorem outA_a {bs : Option Nat} {o : AOper} (hpur : ∀ f, pur f = true → PurEnv env f) (hc : o.cls pur = .a) {v : V} (he : outA P env bs o t h = some (v, h')) :
    ∃ l, h' = h ++ l ∧ (∀ s, s ∈ l → s ≠ .free) ∧ ∀ h2, h2.length = h.length → Up h h2 → outA P env bs o t h2 = some (v, h2 ++ l) := by
  obtain ⟨hs, hc⟩ := cls_none hc (by intro k e; cases e) (by intro e; cases e)
  unfold outA at he ⊢
  simp only [slot_none hs, Option.bind_some] at he ⊢
  obtain ⟨b, h1, he⟩ := Option.bind_eq_some_iff.1 he
  cases b with
  | true =>
    simp only [h1, Option.bind_some, if_true] at he ⊢
    exact cls_a hpur hc he
  | false =>
    simp only [Bool.false_eq_true, if_false] at he
    cases he
    exact ⟨[], by simp, by simp, fun h2 _ _ => by simp [h1]⟩

/-- An operation whose block is kept free: it is not done, or it lays the block there. -/
theorem outA_s {bs : Option Nat} {o : AOper} {k : Nat} (hc : o.cls pur = .s k) {v : V} (he : outA P env bs o t h = some (v, h')) :
    (h' = h ∧ ∀ h2, outA P env bs o t h2 = some (v, h2)) ∨ ∃ b0, bs = some b0 ∧ h[b0 + k]? = some .free ∧ ∃ s, s ≠ .free ∧ h' = h.set (b0 + k) s ∧ ∀ h2, h2[b0 + k]? = some .free → outA P env bs o t h2 = some (v, h2.set (b0 + k) s) := by
  unfold AOper.cls at hc
  split at hc
  · rename_i hs
    exfalso
    cases ho : o.op <;> rw [ho] at hc <;> simp only [AOp.cls] at hc <;> (try cases hc)
    split at hc <;> (try split at hc) <;> cases hc
  · rename_i k' hs
    split at hc
    · rename_i hl
      cases hc
      unfold outA at he ⊢
      obtain ⟨b, h1, he⟩ := Option.bind_eq_some_iff.1 he
      cases b with
      | true =>
        simp only [if_true] at he
        obtain ⟨sl, h2, he⟩ := Option.bind_eq_some_iff.1 he
        unfold slotOf at h2
        rw [hs] at h2
        obtain ⟨b0, rfl, rfl⟩ := Option.map_eq_some_iff.1 h2
        obtain ⟨e1, s, e2, e3, e4⟩ := cls_s hl he
        refine .inr ⟨b0, rfl, e1, s, e2, e3, fun h3 hb => ?_⟩
        simp only [h1, Option.bind_some, if_true, slotOf, hs, Option.map_some]
        exact e4 h3 hb
      | false =>
        simp only [Bool.false_eq_true, if_false] at he
        cases he
        exact .inl ⟨rfl, fun h2 => by simp [h1]⟩
    · cases hc

section
variable {x : V}
theorem kept_cells {b g : Nat} {h2 : Heap} (hk : h2[b]? = h[b]?) : getCells h2 b g = getCells h b g := by
  unfold getCells; rw [hk]
theorem load_kept {z : Nat} {ag : Bool} {h2 : Heap} (hk : kept h h2 x) : stepLoad z ag h2 x = stepLoad z ag h x := by
  cases x with
  | ptr b g off => simp only [stepLoad]; rw [kept_cells hk]
  | i y => cases y <;> rfl
  | hsl => rfl
  | _ => exact hk.elim
theorem idx_kept {z : Nat} {n : Int} {h2 : Heap} (hk : kept h h2 x) : stepIdxS z h2 n x = stepIdxS z h n x := by
  cases x with
  | hsl b g off => simp only [stepIdxS]; rw [kept_cells hk]
  | i y => cases y <;> rfl
  | ptr => rfl
  | _ => exact hk.elim
theorem sliceA_kept {n z : Nat} {ag : Bool} {bd : Nat → Option (Nat × Nat)} {h2 : Heap} (hk : kept h h2 x) : stepSliceA n z ag bd h2 x = stepSliceA n z ag bd h x := by
  cases x with
  | ptr b g off => simp only [stepSliceA]; simp only [kept_cells hk]
  | i y => cases y <;> rfl
  | hsl => rfl
  | _ => exact hk.elim
theorem src_kept {h2 : Heap} (hk : kept h h2 x) : srcCells h2 x = srcCells h x := by
  cases x with
  | hsl b g off => simp only [srcCells]; rw [kept_cells hk]
  | i y => unfold srcCells; split <;> first | rfl | (rename_i he; cases he) | simp_all
  | ptr => rfl
  | _ => exact hk.elim
end

theorem cls_addr {op : AOp} {a : Nat} (ha : addrOf op = some a) {v : V} {h2 : Heap} (hk : kept h h2 (t a)) (he : stepOp P env none op ⟨t, h⟩ = some (v, h')) : stepOp P env none op ⟨t, h2⟩ = some (v, h2) := by
  have hev : ∀ h2 x, St.ev ⟨t, h2⟩ x = St.ev ⟨t, h⟩ x := fun h2 x => ev_congr fun _ _ => rfl
  have hbd : ∀ h2 lo hi, bounds ⟨t, h2⟩ lo hi = bounds ⟨t, h⟩ lo hi := fun h2 lo hi => bounds_congr fun _ _ => rfl
  have hta : ∀ h, St.ev ⟨t, h⟩ (.tmp a) = t a := fun _ => rfl
  unfold addrOf at ha
  split at ha
  · cases ha
    simp only [stepOp, hta] at he ⊢
    obtain ⟨y, h3, he⟩ := Option.map_eq_some_iff.1 he
    cases he
    rw [load_kept hk, h3]; rfl
  · cases ha
    simp only [stepOp, hta, hev h2] at he ⊢
    obtain ⟨k, h1, he⟩ := Option.bind_eq_some_iff.1 he
    obtain ⟨y, h3, he⟩ := Option.map_eq_some_iff.1 he
    cases he
    rw [h1, Option.bind_some, idx_kept hk, h3]; rfl
  · cases ha
    simp only [stepOp, hta, hbd h2] at he ⊢
    obtain ⟨y, h3, he⟩ := Option.map_eq_some_iff.1 he
    cases he
    rw [sliceA_kept hk, h3]; rfl
  · cases ha
    simp only [stepOp, hta] at he ⊢
    obtain ⟨ys, h1, he⟩ := Option.bind_eq_some_iff.1 he
    obtain ⟨n, h3, he⟩ := Option.bind_eq_some_iff.1 he
    obtain ⟨bs, h4, he⟩ := Option.bind_eq_some_iff.1 he
    split at he
    · rename_i hl
      cases he
      rw [src_kept hk, h1, Option.bind_some, h3, Option.bind_some, h4, Option.bind_some, if_pos hl]
    · cases he
  · cases ha

/-- A reference to what is there. -/
def refIn (h : Heap) : V → Prop
  | .ptr b _ _ => inUse h b
  | .hsl b _ _ _ _ _ => inUse h b
  | _ => True

theorem addr_kept {op : AOp} {a : Nat} (ha : addrOf op = some a) {v : V} (he : stepOp P env none op ⟨t, h⟩ = some (v, h')) : kept h h (t a) := by
  have hta : ∀ h, St.ev ⟨t, h⟩ (.tmp a) = t a := fun _ => rfl
  unfold addrOf at ha
  split at ha
  · cases ha
    simp only [stepOp, hta] at he
    obtain ⟨y, h3, _⟩ := Option.map_eq_some_iff.1 he
    cases ht : t a <;> rw [ht] at h3 <;> first | rfl | trivial | (simp [stepLoad] at h3; done)
  · cases ha
    simp only [stepOp, hta] at he
    obtain ⟨k, h1, he⟩ := Option.bind_eq_some_iff.1 he
    obtain ⟨y, h3, he⟩ := Option.map_eq_some_iff.1 he
    cases ht : t a <;> rw [ht] at h3 <;> first | rfl | trivial | (simp [stepIdxS] at h3; done)
  · cases ha
    simp only [stepOp, hta] at he
    obtain ⟨y, h3, he⟩ := Option.map_eq_some_iff.1 he
    cases ht : t a <;> rw [ht] at h3 <;> first | rfl | trivial | (simp [stepSliceA] at h3; done)
  · cases ha
    simp only [stepOp, hta] at he
    obtain ⟨ys, h1, he⟩ := Option.bind_eq_some_iff.1 he
    cases ht : t a <;> rw [ht] at h1 <;> first | rfl | trivial | (simp [srcCells] at h1; done)
  · cases ha

theorem same_append {l : Heap} : ∀ b, inUse h b → (h ++ l)[b]? = h[b]? := by
  rintro b ⟨s, hb, _⟩
  exact List.getElem?_append_left (List.getElem?_eq_some_iff.1 hb).1

theorem same_set {b0 : Nat} {s : Slot} (hf : h[b0]? = some .free) : ∀ b, inUse h b → (h.set b0 s)[b]? = h[b]? := by
  rintro b ⟨s', hb, hn⟩
  by_cases e : b0 = b
  · subst e
    rw [hf] at hb
    exact absurd (Option.some.inj hb).symm hn
  · exact List.getElem?_set_ne e

theorem kept_front {hx : Heap} {v : V} (hsame : ∀ b, inUse h b → hx[b]? = h[b]?) (hk : kept hx hx v) (hr : refIn h v) : kept hx h v := by
  cases v with
  | ptr b g off => exact (hsame b hr).symm
  | hsl b g off z ag len => exact (hsame b hr).symm
  | i x => trivial
  | _ => exact hk.elim

theorem outA_front {bs : Option Nat} {o : AOper} {a : Nat} (hs : o.slot = none) (ha : addrOf o.op = some a) {hx : Heap} {v : V} (hsame : ∀ b, inUse h b → hx[b]? = h[b]?) (hr : refIn h (t a)) (he : outA P env bs o t hx = some (v, h')) :
    h' = hx ∧ outA P env bs o t h = some (v, h) := by
  unfold outA at he ⊢
  simp only [slot_none hs, Option.bind_some] at he ⊢
  obtain ⟨b, h1, he⟩ := Option.bind_eq_some_iff.1 he
  cases b with
  | true =>
    simp only [h1, Option.bind_some, if_true] at he ⊢
    have hk := addr_kept ha he
    have e2 := cls_addr ha hk he
    rw [he] at e2
    simp only [Option.some.injEq, Prod.mk.injEq, true_and] at e2
    exact ⟨e2, cls_addr ha (kept_front hsame hk hr) he⟩
  | false =>
    simp only [Bool.false_eq_true, if_false] at he
    cases he
    exact ⟨rfl, by simp [h1]⟩

theorem swap_ok {bs : Option Nat} {x y : AOper} (hpur : ∀ f, pur f = true → PurEnv env f) (hsw : swapOK pur x y = true) {st st1 st2 : St} (hw : ∀ a, addrOf y.op = some a → refIn st.h (st.t a)) (h1 : stepA P env bs x st = some st1) (h2 : stepA P env bs y.clear st1 = some st2) :
    ∃ st1', stepA P env bs y.clear st = some st1' ∧ stepA P env bs x st1' = some st2 := by
  obtain ⟨⟨vx, hx⟩, e1, ck, rfl⟩ := stepA_some.1 h1
  obtain ⟨⟨vy, hy⟩, e2, _, rfl⟩ := stepA_some.1 h2
  rw [outA_clear] at e2
  simp only at e2 ck
  unfold swapOK at hsw
  simp only [Bool.and_eq_true] at hsw
  obtain ⟨⟨⟨k1, k0⟩, k2⟩, k3⟩ := hsw
  have a1 : ∀ k, k ∈ y.looks → put st.t x.dst vx k = st.t k := by
    intro k hk
    refine put_ne ?_
    intro n hn e
    subst e
    rw [hn] at k2
    simp at k2
    exact k2.1 hk
  have a2 : ∀ n, x.dst = some n → y.dst ≠ some n := by
    intro n hn e
    rw [hn] at k2
    simp at k2
    exact k2.2 e
  have a3 : ∀ (v : V) k, k ∈ x.looks → put st.t y.dst v k = st.t k := by
    intro v k hk
    refine put_ne ?_
    intro n hn e
    subst e
    rw [hn] at k3
    simp at k3
    exact k3.1 hk
  have a4 : ∀ (v : V) z, z ∈ x.apart → ∀ h2, St.ev ⟨put st.t y.dst v, h2⟩ z = St.ev st z := by
    intro v z hz h2
    refine ev_congr (t' := put st.t y.dst v) (h' := h2) (t := st.t) (h := st.h) ?_
    intro k hk
    refine put_ne ?_
    intro n hn e
    subst e
    rw [hn] at k3
    simp at k3
    exact k3.2 (by unfold AOper.watch; exact List.mem_flatMap.2 ⟨z, hz, hk⟩)
  rw [outA_congr a1] at e2
  have fin : ∀ hh, outA P env bs y st.t st.h = some (vy, hh) → outA P env bs x st.t hh = some (vx, hy) → (∀ z, z ∈ x.apart → kept hh hy (st.ev z)) →
      ∃ st1', stepA P env bs y.clear st = some st1' ∧ stepA P env bs x st1' = some ⟨put (put st.t x.dst vx) y.dst vy, hy⟩ := by
    intro hh f1 f2 f3
    refine ⟨⟨put st.t y.dst vy, hh⟩, stepA_some.2 ⟨_, by rw [outA_clear]; exact f1, by simp [AOper.clear], rfl⟩, ?_⟩
    refine stepA_some.2 ⟨(vx, hy), ?_, ?_, ?_⟩
    · simp only
      rw [outA_congr (a3 vy)]
      exact f2
    · intro z hz
      rw [a4 vy z hz]
      exact f3 z hz
    · simp only [put_comm a2]
  rcases Bool.or_eq_true _ _ ▸ k1 with k1 | k1
  case inr =>
    simp only [Bool.and_eq_true] at k1
    obtain ⟨k1, k4⟩ := k1
    obtain ⟨a, ha⟩ := Option.isSome_iff_exists.1 k4
    have hys : y.slot = none := by
      cases hcy : y.cls pur with
      | r => exact (cls_none hcy (by intro k e; cases e) (by intro e; cases e)).1
      | _ => rw [hcy] at k1; cases hcx : x.cls pur <;> rw [hcx] at k1 <;> cases k1
    cases hcx : x.cls pur with
    | a =>
      obtain ⟨l, rfl, _, _⟩ := outA_a hpur hcx e1
      obtain ⟨rfl, e3⟩ := outA_front hys ha same_append (hw a ha) e2
      exact fin _ e3 e1 ck
    | s k =>
      rcases outA_s hcx e1 with ⟨rfl, g⟩ | ⟨b0, rfl, g1, s, g2, rfl, g3⟩
      · obtain ⟨rfl, e3⟩ := outA_front hys ha (fun _ _ => rfl) (hw a ha) e2
        exact fin _ e3 e1 ck
      · obtain ⟨rfl, e3⟩ := outA_front hys ha (same_set g1) (hw a ha) e2
        exact fin _ e3 e1 ck
    | _ => rw [hcx] at k1; cases k1
  have hsl : ∀ k, y.cls pur = .s k → x.apart = [] := by
    intro k e
    rw [e] at k0
    simpa [Cls.isS] using k0
  cases hcx : x.cls pur with
  | q =>
    obtain ⟨rfl, q2⟩ := outA_q hcx e1
    exact fin hy e2 (q2 hy) (fun z hz => kept_refl (ck z hz))
  | r =>
    obtain ⟨rfl, q2⟩ := outA_r hpur hcx e1
    cases hcy : y.cls pur with
    | q =>
      obtain ⟨rfl, _⟩ := outA_q hcy e2
      exact fin _ e2 e1 ck
    | r =>
      obtain ⟨rfl, _⟩ := outA_r hpur hcy e2
      exact fin _ e2 e1 ck
    | a =>
      obtain ⟨l, rfl, _, _⟩ := outA_a hpur hcy e2
      exact fin _ e2 (q2 _ (Up.append l)) (fun z hz => kept_refl (ck z hz))
    | s k =>
      rcases outA_s hcy e2 with ⟨rfl, g⟩ | ⟨b0, rfl, g1, s, g2, rfl, g3⟩
      · exact fin _ e2 e1 ck
      · exact fin _ e2 (q2 _ (Up.set s g1)) (fun z hz => kept_refl (ck z hz))
    | e => rw [hcx, hcy] at k1; cases k1
  | a =>
    obtain ⟨l, rfl, q0, q2⟩ := outA_a hpur hcx e1
    cases hcy : y.cls pur with
    | q =>
      obtain ⟨rfl, q3⟩ := outA_q hcy e2
      exact fin _ (q3 _) e1 ck
    | s k =>
      rcases outA_s hcy e2 with ⟨rfl, g⟩ | ⟨b0, rfl, g1, s, g2, rfl, g3⟩
      · exact fin _ (g _) e1 ck
      · by_cases hlt : b0 + k < st.h.length
        · have g4 : st.h[b0 + k]? = some .free := by rw [List.getElem?_append_left hlt] at g1; exact g1
          refine fin _ (g3 _ g4) ?_ (fun z hz => by rw [hsl k hcy] at hz; cases hz)
          rw [q2 _ (by simp) (Up.set s g4), List.set_append_left _ _ hlt]
        · rw [List.getElem?_append_right (by omega)] at g1
          exact absurd rfl (q0 _ (List.mem_of_getElem? g1))
    | r => rw [hcx, hcy] at k1; cases k1
    | a => rw [hcx, hcy] at k1; cases k1
    | e => rw [hcx, hcy] at k1; cases k1
  | s k =>
    cases hcy : y.cls pur with
    | q =>
      obtain ⟨rfl, q2⟩ := outA_q hcy e2
      exact fin _ (q2 _) e1 ck
    | s m =>
      have hkm : k ≠ m := by rw [hcx, hcy] at k1; simpa [Cls.swap] using k1
      have hap := hsl m hcy
      rcases outA_s hcx e1 with ⟨rfl, f⟩ | ⟨b0, rfl, f1, s, f2, rfl, f3⟩
      · exact fin _ e2 (f _) (fun z hz => by rw [hap] at hz; cases hz)
      · rcases outA_s hcy e2 with ⟨rfl, g⟩ | ⟨b1, hb, g1, s', g2, rfl, g3⟩
        · exact fin _ (g _) e1 ck
        · cases hb
          have hne : b0 + k ≠ b0 + m := by omega
          have g4 : st.h[b0 + m]? = some .free := by rwa [List.getElem?_set_ne hne] at g1
          refine fin _ (g3 _ g4) ?_ (fun z hz => by rw [hap] at hz; cases hz)
          rw [f3 _ (by rw [List.getElem?_set_ne (Ne.symm hne)]; exact f1), List.set_comm _ _ hne]
    | r => rw [hcx, hcy] at k1; cases k1
    | a => rw [hcx, hcy] at k1; cases k1
    | e => rw [hcx, hcy] at k1; cases k1
  | e =>
    cases hcy : y.cls pur with
    | q =>
      obtain ⟨rfl, q2⟩ := outA_q hcy e2
      exact fin _ (q2 _) e1 ck
    | r => rw [hcx, hcy] at k1; cases k1
    | a => rw [hcx, hcy] at k1; cases k1
    | s k => rw [hcx, hcy] at k1; cases k1
    | e => rw [hcx, hcy] at k1; cases k1

theorem addr_uses {op : AOp} {a : Nat} (ha : addrOf op = some a) : a ∈ op.uses := by
  unfold addrOf at ha
  split at ha <;> cases ha <;> simp [AOp.uses, Operand.tm]

/-- What y reads through is there still when x is done. -/
theorem swap_ref {bs : Option Nat} {x y : AOper} (hpur : ∀ f, pur f = true → PurEnv env f) (hsw : swapOK pur x y = true) {st st1 : St} (h1 : stepA P env bs x st = some st1) (hw : ∀ a, addrOf y.op = some a → refIn st.h (st.t a)) :
    ∀ a, addrOf y.op = some a → refIn st1.h (st1.t a) := by
  intro a ha
  obtain ⟨⟨vx, hx⟩, e1, ck, rfl⟩ := stepA_some.1 h1
  unfold swapOK at hsw
  simp only [Bool.and_eq_true] at hsw
  obtain ⟨⟨⟨k1, _⟩, k2⟩, k3⟩ := hsw
  have hl : a ∈ y.looks := by unfold AOper.looks; exact List.mem_append_left _ (addr_uses ha)
  have e : put st.t x.dst vx a = st.t a := by
    refine put_ne ?_
    intro n hn e
    subst e
    rw [hn] at k2
    simp at k2
    exact k2.1 hl
  have hcy : y.cls pur = .r ∨ y.cls pur = .e := by
    unfold AOper.cls
    cases y.slot with
    | none =>
      left
      unfold addrOf at ha
      split at ha <;> (try cases ha) <;> rename_i hop <;> simp only [hop] <;> rfl
    | some k =>
      right
      unfold addrOf at ha
      split at ha <;> (try cases ha) <;> rename_i hop <;> simp only [hop] <;> rfl
  have hin : ∀ b, inUse st.h b → inUse hx b := by
    cases hcx : x.cls pur with
    | q => obtain ⟨rfl, _⟩ := outA_q hcx e1; exact fun _ h => h
    | r => obtain ⟨rfl, _⟩ := outA_r hpur hcx e1; exact fun _ h => h
    | a =>
      obtain ⟨l, rfl, _, _⟩ := outA_a hpur hcx e1
      intro b hb
      obtain ⟨s, h1, h2⟩ := hb
      exact ⟨s, by rw [same_append b ⟨s, h1, h2⟩]; exact h1, h2⟩
    | s k =>
      rcases outA_s hcx e1 with ⟨rfl, f⟩ | ⟨b0, rfl, f1, s, f2, rfl, f3⟩
      · exact fun _ h => h
      · intro b hb
        obtain ⟨s', h1, h2⟩ := hb
        exact ⟨s', by rw [same_set f1 b ⟨s', h1, h2⟩]; exact h1, h2⟩
    | e => rcases hcy with hcy | hcy <;> rw [hcx, hcy] at k1 <;> simp [Cls.swap, Cls.ar] at k1
  have := hw a ha
  simp only [e]
  cases hv : st.t a <;> rw [hv] at this <;> simp only [refIn] at this ⊢ <;> exact hin _ this

end
end Go.AM
