/- Whole function bodies on the abstract machine, and that the model does what it says. No condition. -/
import Derived.Test.YtogokiglmhnjkaaLabB16b
import Derived.Orders
set_option linter.unusedVariables false
set_option linter.unusedSimpArgs false
namespace Go.AM

/-- What must come before an operation, as bits; out of the masks of what comes before. -/
def maskOf (masks : List Nat) (o : Oper) : Nat := o.after.toList.foldl (fun s e => if Region.binds .any e then s ||| 2 ^ e.on ||| masks.getD e.on 0 else s) 0

def masksGo : List Oper → List Nat → List Nat
  | [], acc => acc
  | o :: l, acc => masksGo l (acc ++ [maskOf acc o])

/-- The operations that write, each with what is read beside it. -/
def withApart (pur : Nat → Bool) (m : List Nat) (al : List AOper) : List AOper :=
  al.mapIdx fun i o => if (o.cls pur).isE then { o with apart := (List.range i).filterMap fun j => if (m.getD i 0).testBit j then none else (al[j]?).bind fun x => (addrOf x.op).map .tmp } else o

def drawPair (pur : Nat → Bool) (m : List Nat) (al : List AOper) (i j : Nat) : Bool :=
  (m.getD i 0).testBit j || match al[j]?, al[i]? with | some x, some y => (if (y.cls pur).isE then watchOK pur al j i x y else swapOK pur x y) | _, _ => false

def topoGo (mo : Region.Mode) (ops : Array Oper) : List Nat → List Nat → Bool
  | [], _ => true
  | i :: l, seen => (match ops[i]? with | some o => o.after.toList.all (fun e => !Region.binds mo e || seen.contains e.on) | none => false) && topoGo mo ops l (i :: seen)

/-- There is always an operation that may come next. -/
def topoOK (ops : Array Oper) : Bool :=
  topoGo .text ops (List.range ops.size) [] &&
  (let ord := Region.linearise .gc ops 0; topoGo .gc ops ord [] && (List.range ops.size).all fun i => ord.contains i)

/-- Whatever order the region's operations are taken in, it comes to the same as the text's. -/
def drawOK (pur : Nat → Bool) (ops : Array Oper) (al : List AOper) : Bool :=
  let m := masksGo ops.toList []
  topoOK ops && (List.range ops.size).all fun i =>
    match ops[i]? with
    | some o => m.getD i 0 == maskOf m o && (List.range i).all (drawPair pur m al i)
    | none => false

/-- Which operations need a block kept free: those that lay one and may change places with others that do. -/
def needSlot (pur : Nat → Bool) (m : List Nat) (al : List AOper) (i : Nat) : Bool :=
  match al[i]? with
  | some o => o.op.lays && (List.range al.length).any fun j => j != i && (match al[j]? with | some x => (match x.op.cls pur with | .a => true | _ => false) | none => false) && !(m.getD i 0).testBit j && !(m.getD j 0).testBit i
  | none => false

def withSlots (pur : Nat → Bool) (m : List Nat) (al : List AOper) : List AOper :=
  al.mapIdx fun i o => if needSlot pur m al i then { o with slot := some ((List.range i).countP (needSlot pur m al)) } else o

def slotsOf (pur : Nat → Bool) (m : List Nat) (al : List AOper) : Nat := (List.range al.length).countP (needSlot pur m al)

/-- A region in whatever order: as it stands, or with blocks kept free. -/
def drawn (n : Nat) (al : List AOper) : ACode := if n = 0 then .ops al else .opsR n al

def compile (P : Program) (pur : Nat → Bool) (md : Modes) (N : Nat) : Code → Option ACode
  | .skip => some .skip
  | .region _ ops draw => (ops.toList.mapM (compOper P md (!draw) N ops)).bind fun al =>
      if draw then
        if drawOK pur ops (withApart pur (masksGo ops.toList []) (withSlots pur (masksGo ops.toList []) al)) = true then
          some (drawn (slotsOf pur (masksGo ops.toList []) al) (withApart pur (masksGo ops.toList []) (withSlots pur (masksGo ops.toList []) al))) else none
      else some (.ops al)
  | .seq a b => (compile P pur md N a).bind fun x => (compile P pur md N b).map fun y => .seq x y
  | .cond c a b => (compile P pur md N a).bind fun x => (compile P pur md N b).map fun y => .cond c x y
  | .block id c => (compile P pur md N c).map (.block id)
  | .loop c => (compile P pur md N c).map .loop
  | .exit id => some (.exit id)
  | .ret => some .ret
  | _ => none

section
variable {P : Program} {base : Nat} {X : Nat → Prop} {w : World} {H : Heap} {G : List Nat} {t : Nat → V} {N : Nat} {md : Modes} {sq : Bool}

/-- The whole of what holds between the two machines. -/
structure Sim (base : Nat) (X : Nat → Prop) (N : Nat) (st : St) (a : Act) (w : World) (G : List Nat) : Prop where
  heap : SimH base X w st.h G
  tmps : TV w base (Mof X st.h G) st.h G st.t a.tmps
  size : a.tmps.size = N

theorem TV.ext {w' : World} {H' : Heap} {G' : List Nat} {tmps : Array Value} (h : TV w base (Mof X H G) H G t tmps) (hE : Ext w H G w' H' G') : TV w' base (Mof X H' G') H' G' t tmps :=
  fun k => (h k).ext hE

theorem TV.put {M : Nat → Prop} {a : Act} {dst : Option Nat} {v : V} {x : Value} (h : TV w base M H G t a.tmps) (hv : RV w base M H G v x) (hd : dst.all (· < a.tmps.size) = true) :
    TV w base M H G (put t dst v) (a.put dst x).tmps := by
  cases dst with
  | none => exact h
  | some d =>
    simp at hd
    intro k
    simp only [AM.put, Act.put]
    by_cases e : k = d
    · subst e
      rw [if_pos rfl]
      simp only [Array.getD_eq_getD_getElem?, Array.getElem?_setIfInBounds]
      simp only [if_true, hd, Option.getD_some]
      exact hv
    · rw [if_neg e]
      have := h k
      simp only [Array.getD_eq_getD_getElem?, Array.getElem?_setIfInBounds] at this ⊢
      rw [if_neg (Ne.symm e)]
      exact this

theorem Sim.ref {st : St} {a : Act} (hS : Sim base X N st a w G) (k : Nat) : refIn st.h (st.t k) := by
  have h := hS.tmps k
  generalize a.tmps.getD k undef = u at h
  cases hv : st.t k with
  | ptr b g off =>
    rw [hv] at h
    cases h with
    | ptr hr _ _ => exact hr.1
  | hsl b g off z ag len =>
    rw [hv] at h
    cases h with
    | hsl hr _ _ _ _ => exact hr.1
    | hnil hr _ => exact hr.1
  | _ => trivial

theorem put_size (a : Act) (dst : Option Nat) (x : Value) : (a.put dst x).tmps.size = a.tmps.size := by
  cases dst <;> simp [Act.put]

theorem put_defers (a : Act) (dst : Option Nat) (x : Value) : (a.put dst x).defers = a.defers := by
  cases dst <;> rfl

theorem wanted_ok {a : Act} {ops : Array Oper} {o : Oper} {ao : AOper} {b : Bool} {st : St} (hS : Sim base X N st a w G) (hc : compOper P md sq N ops o = some ao) (hw : wantedA ao st.t = some b) : Region.wanted o (yielded ops a.tmps) = b := by
  unfold compOper at hc
  split at hc
  · obtain ⟨aop, _, hc⟩ := Option.bind_eq_some_iff.1 hc
    split at hc
    · rename_i hg
      cases hc
      simp only [wantedA, Option.some.injEq] at hw
      subst hw
      simp [Region.wanted, hg]
    · rename_i j want hg
      obtain ⟨d, hd, hc⟩ := Option.bind_eq_some_iff.1 hc
      split at hc
      · rename_i hlt
        cases hc
        have hT := hS.tmps d
        have hsz := hS.size
        have hlt' : d < a.tmps.size := by rw [hsz]; exact hlt
        have hget : a.tmps[d]? = some (a.tmps.getD d undef) := by
          simp [Array.getD_eq_getD_getElem?, hlt']
        simp only [wantedA] at hw
        split at hw
        · rename_i b' he
          cases hw
          rw [he] at hT
          generalize a.tmps.getD d undef = u at hT hget
          cases hT with
          | i hi =>
            cases hi
            simp only [Region.wanted, hg, yielded, hd, Option.bind_some, hget]
            cases b' <;> cases want <;> rfl
        · rename_i he
          cases hw
          rw [he] at hT
          generalize a.tmps.getD d undef = u at hT hget
          cases hT with
          | i hi =>
            cases hi
            simp only [Region.wanted, hg, yielded, hd, Option.bind_some, hget]
            cases want <;> rfl
        · cases hw
      · cases hc
  · cases hc

theorem compOper_op {ops : Array Oper} {o : Oper} {ao : AOper} (hc : compOper P md sq N ops o = some ao) : (∃ op0 own, compOp P o = some op0 ∧ ao.op = finOp sq (hintOf P o) own (normOp P op0)) ∧ ao.dst = o.dst ∧ o.dst.all (· < N) = true := by
  unfold compOper at hc
  split at hc
  · rename_i hd
    obtain ⟨aop, h1, hc⟩ := Option.bind_eq_some_iff.1 hc
    split at hc
    · cases hc; exact ⟨⟨_, (fun f => md f == 2 || md f == 1 || (sq && md f == 3 && !calmReg md ops)), h1, rfl⟩, rfl, hd⟩
    · obtain ⟨d, _, hc⟩ := Option.bind_eq_some_iff.1 hc
      split at hc
      · cases hc; exact ⟨⟨_, (fun f => md f == 2 || md f == 1 || (sq && md f == 3 && !calmReg md ops)), h1, rfl⟩, rfl, hd⟩
      · cases hc
  · cases hc

/-- One operation of a region. -/
theorem stepA_wp {env : Env} {ops : Array Oper} {o : Oper} {ao : AOper} {ap : List Operand} {i : Nat} {K : Act → World → Prop} {a : Act} {st st' : St} (hE : EnvOK P env) (hS : Sim base X N st a w G) (ho : ops[i]? = some o) (hc : compOper P md sq N ops o = some ao)
    {bs sl : Option Nat} (hsl : sq = true → sl = none) (hs : stepA P env bs { ao with apart := ap, slot := sl } st = some st') (Q : Exit → Act → World → Prop)
    (hn : ∀ a' w' G', Ext w st.h G w' st'.h G' → Sim base X N st' a' w' G' → a'.defers = a.defers → K a' w') : wpOp P ops Q i K a w := by
  obtain ⟨⟨op0, own, c1, c4⟩, c2, c3⟩ := compOper_op hc
  obtain ⟨⟨v, H'⟩, hs0, _, rfl⟩ := stepA_some.1 hs
  clear hs
  obtain ⟨b, hb, hs⟩ := Option.bind_eq_some_iff.1 hs0
  replace hb : wantedA ao st.t = some b := hb
  have hw := wanted_ok hS hc hb
  simp only [wpOp, ho, hw]
  have hd : o.dst.all (· < a.tmps.size) = true := by rw [hS.size]; exact c3
  cases b with
  | true =>
    simp only [if_true] at hs ⊢
    obtain ⟨slot, hsl2, hs⟩ := Option.bind_eq_some_iff.1 hs
    rw [c4] at hs
    left
    refine fin_ok (fun e => by rw [slot_none (o := { ao with apart := ap, slot := sl }) (hsl e)] at hsl2; exact (Option.some.inj hsl2).symm) hE hS.heap hS.tmps c1 hs _ Q ?_
    intro x w' G' hE' hS' hv
    refine hn _ w' G' hE' ⟨hS', ?_, by rw [put_size]; exact hS.size⟩ (put_defers _ _ _)
    simp only
    rw [c2]
    exact (hS.tmps.ext hE').put hv hd
  | false =>
    simp only [Bool.false_eq_true, if_false] at hs ⊢
    cases hs
    refine hn _ w G (Ext.refl _ _ _) ⟨hS.heap, ?_, by rw [put_size]; exact hS.size⟩ (put_defers _ _ _)
    simp only
    rw [c2]
    exact hS.tmps.put RV.undef hd

theorem stepA_ok {env : Env} {ops : Array Oper} {o : Oper} {ao : AOper} {i : Nat} {rest : List Nat} {a : Act} {st st' : St} (hE : EnvOK P env) (hS : Sim base X N st a w G) (ho : ops[i]? = some o) (hc : compOper P md sq N ops o = some ao)
    {bs : Option Nat} (hsl : ao.slot = none) (hs : stepA P env bs ao st = some st') (Q : Exit → Act → World → Prop)
    (hn : ∀ a' w' G', Ext w st.h G w' st'.h G' → Sim base X N st' a' w' G' → a'.defers = a.defers → wpOps P ops Q rest a' w') : wpOps P ops Q (i :: rest) a w := by
  rw [wpOps_cons]
  exact stepA_wp (ap := ao.apart) (bs := bs) (sl := ao.slot) hE hS ho hc (fun _ => hsl) hs Q hn

theorem compOper_slot {ops : Array Oper} {o : Oper} {ao : AOper} (hc : compOper P md sq N ops o = some ao) : ao.slot = none := by
  unfold compOper at hc
  split at hc
  · obtain ⟨aop, _, hc⟩ := Option.bind_eq_some_iff.1 hc
    split at hc
    · cases hc; rfl
    · obtain ⟨d, _, hc⟩ := Option.bind_eq_some_iff.1 hc
      split at hc
      · cases hc; rfl
      · cases hc
  · cases hc

theorem runOps_ok {bs : Option Nat} {env : Env} {ops : Array Oper} (hE : EnvOK P env) (Q : Exit → Act → World → Prop) : ∀ (l : List Nat) (al : List AOper) (st st' : St) (a : Act) (w : World) (G : List Nat), Sim base X N st a w G →
    (l.mapM fun i => (ops[i]?).bind (compOper P md sq N ops)) = some al → runOps P env bs al st = some st' →
    (∀ a' w' G', Ext w st.h G w' st'.h G' → Sim base X N st' a' w' G' → a'.defers = a.defers → Q .normal a' w') → wpOps P ops Q l a w
  | [], al, st, st', a, w, G, hS, hc, hr, hn => by
    simp at hc
    subst hc
    simp [runOps] at hr
    subst hr
    exact hn a w G (Ext.refl _ _ _) hS rfl
  | i :: l, al, st, st', a, w, G, hS, hc, hr, hn => by
    simp only [List.mapM_cons, Option.bind_eq_bind] at hc
    obtain ⟨ao, h1, hc⟩ := Option.bind_eq_some_iff.1 hc
    obtain ⟨al', h2, hc⟩ := Option.bind_eq_some_iff.1 hc
    simp at hc
    subst hc
    obtain ⟨o, ho, h3⟩ := Option.bind_eq_some_iff.1 h1
    simp only [runOps] at hr
    obtain ⟨st1, h4, h5⟩ := Option.bind_eq_some_iff.1 hr
    refine stepA_ok hE hS ho h3 (compOper_slot h3) h4 Q ?_
    intro a1 w1 G1 hE1 hS1 hd1
    refine runOps_ok hE Q l al' st1 st' a1 w1 G1 hS1 h2 h5 ?_
    intro a2 w2 G2 hE2 hS2 hd2
    exact hn a2 w2 G2 (hE1.trans hE2) hS2 (hd2.trans hd1)

theorem mapM_range {α β : Type} (f : α → Option β) (arr : Array α) : (List.range arr.size).mapM (fun i => (arr[i]?).bind f) = arr.toList.mapM f := by
  have : (List.range arr.size).map (fun i => arr[i]?) = arr.toList.map some := by
    apply List.ext_getElem
    · simp
    · intro i h1 h2
      simp at h1 h2 ⊢
  have h1 : (List.range arr.size).mapM (fun i => (arr[i]?).bind f) = ((List.range arr.size).map (fun i => arr[i]?)).mapM (fun x => x.bind f) := by rw [List.mapM_map]; rfl
  rw [h1, this, List.mapM_map]
  rfl

theorem mask_bits {m : List Nat} {j : Nat} : ∀ (l : List Edge) (s : Nat), (l.foldl (fun s e => if Region.binds .any e then s ||| 2 ^ e.on ||| m.getD e.on 0 else s) s).testBit j = true →
    s.testBit j = true ∨ ∃ e, e ∈ l ∧ Region.binds .any e = true ∧ (e.on = j ∨ (m.getD e.on 0).testBit j = true)
  | [], s, h => .inl h
  | e :: l, s, h => by
    simp only [List.foldl_cons] at h
    rcases mask_bits l _ h with h1 | ⟨e', h1, h2, h3⟩
    · split at h1
      · rename_i hb
        simp only [Nat.testBit_or, Bool.or_eq_true] at h1
        rcases h1 with (h1 | h1) | h1
        · exact .inl h1
        · refine .inr ⟨e, by simp, hb, .inl ?_⟩
          rw [Nat.testBit_two_pow] at h1
          simpa using h1
        · exact .inr ⟨e, by simp, hb, .inr h1⟩
      · exact .inl h1
    · exact .inr ⟨e', by simp [h1], h2, h3⟩

theorem binds_any {md : Region.Mode} {e : Edge} (h : Region.binds .any e = true) : Region.binds md e = true := by
  unfold Region.binds at h ⊢
  split at h <;> first | (exact absurd h (by decide)) | simp_all

/-- The operations that are still to come, in the text's order. -/
def remOf (n : Nat) (listed : Array Bool) : List Nat := (List.range n).filter fun i => !listed.getD i true

theorem mem_rem {n i : Nat} {listed : Array Bool} : i ∈ remOf n listed ↔ i < n ∧ listed.getD i true = false := by
  simp only [remOf, List.mem_filter, List.mem_range, Bool.not_eq_true', decide_eq_true_eq]

theorem mapM_opt_get {α β : Type} {f : α → Option β} : ∀ {l : List α} {r : List β}, l.mapM f = some r → ∀ (i : Nat) (x : α), l[i]? = some x → ∃ y, r[i]? = some y ∧ f x = some y
  | [], r, h, i, x, hx => by simp at hx
  | a :: l, r, h, i, x, hx => by
    simp only [List.mapM_cons, Option.bind_eq_bind] at h
    obtain ⟨u, hu, h⟩ := Option.bind_eq_some_iff.1 h
    obtain ⟨us, h1, h2⟩ := Option.bind_eq_some_iff.1 h
    simp at h2
    subst h2
    cases i with
    | zero => simp at hx; subst hx; exact ⟨u, by simp, hu⟩
    | succ i =>
      simp at hx
      obtain ⟨y, h3, h4⟩ := mapM_opt_get h1 i x hx
      exact ⟨y, by simpa using h3, h4⟩

def pickA (al : List AOper) (l : List Nat) : List AOper := l.filterMap (al[·]?)

theorem front_ok {bs : Option Nat} {env : Env} {pur : Nat → Bool} {al : List AOper} {i : Nat} {ao : AOper} {q : List Nat} (hpur : ∀ f, pur f = true → PurEnv env f) (hi : al[i]? = some ao) {stF : St} : ∀ (p : List Nat) (st : St), (∀ a, addrOf ao.op = some a → refIn st.h (st.t a)) →
    (∀ j, j ∈ p → ∃ x, al[j]? = some x ∧ swapOK pur x ao = true) → runOps P env bs (pickA al (p ++ i :: q)) st = some stF →
    ∃ st1, stepA P env bs ao.clear st = some st1 ∧ runOps P env bs (pickA al (p ++ q)) st1 = some stF
  | [], st, _, _, h => by
    simp only [pickA, List.nil_append, List.filterMap_cons, hi, runOps] at h ⊢
    obtain ⟨st1, h1, h2⟩ := Option.bind_eq_some_iff.1 h
    exact ⟨st1, stepA_clear h1, h2⟩
  | j :: p, st, hw, hp, h => by
    obtain ⟨x, hx, hsw⟩ := hp j (by simp)
    simp only [pickA, List.cons_append, List.filterMap_cons, hx, runOps] at h
    obtain ⟨st1, h1, h2⟩ := Option.bind_eq_some_iff.1 h
    obtain ⟨st2, h3, h4⟩ := front_ok hpur hi p st1 (swap_ref hpur hsw h1 hw) (fun k hk => hp k (by simp [hk])) h2
    obtain ⟨st3, h5, h6⟩ := swap_ok hpur hsw hw h1 h3
    refine ⟨st3, h5, ?_⟩
    simp only [pickA, List.cons_append, List.filterMap_cons, hx, runOps, h6, Option.bind_some]
    exact h4

theorem runOps_append {bs : Option Nat} {env : Env} : ∀ (a b : List AOper) (st : St), runOps P env bs (a ++ b) st = (runOps P env bs a st).bind (runOps P env bs b)
  | [], b, st => rfl
  | o :: a, b, st => by
    simp only [List.cons_append, runOps]
    cases stepA P env bs o st with
    | none => rfl
    | some st1 => simp only [Option.bind_some]; exact runOps_append a b st1

theorem pickA_append (al : List AOper) (p q : List Nat) : pickA al (p ++ q) = pickA al p ++ pickA al q := List.filterMap_append

/-- What the operations ahead of one that writes come to behind it. -/
theorem behind_ok {bs : Option Nat} {env : Env} {pur : Nat → Bool} {al : List AOper} {i : Nat} {y : AOper} (hpur : ∀ f, pur f = true → PurEnv env f) {v : V} {h2 : Heap} : ∀ (p : List Nat) (st stp : St),
    p.Pairwise (· < ·) → (∀ j, j ∈ p → j < i ∧ ∃ x, al[j]? = some x ∧ watchOK pur al j i x y = true) → runOps P env bs (pickA al p) st = some stp →
    stp.h = st.h ∧ (∀ k, k ∈ y.looks → stp.t k = st.t k) ∧
    ((∀ k, k ∈ y.watch → kept st.h h2 (stp.t k)) → runOps P env bs (pickA al p) ⟨put st.t y.dst v, h2⟩ = some ⟨put stp.t y.dst v, h2⟩)
  | [], st, stp, _, _, h => by
    simp [pickA, runOps] at h
    subst h
    exact ⟨rfl, fun _ _ => rfl, fun _ => rfl⟩
  | j :: p, st, stp, hpw, hp, h => by
    obtain ⟨hji, x, hx, hw⟩ := hp j (by simp)
    have hpw' := List.pairwise_cons.1 hpw
    simp only [pickA, List.filterMap_cons, hx, runOps] at h ⊢
    obtain ⟨st1, h1, h3⟩ := Option.bind_eq_some_iff.1 h
    obtain ⟨r1, r2, r3⟩ := behind_ok hpur p st1 stp hpw'.2 (fun k hk => hp k (by simp [hk])) h3
    obtain ⟨⟨vx, hh⟩, e1, _, rfl⟩ := stepA_some.1 h1
    unfold watchOK at hw
    simp only [Bool.and_eq_true] at hw
    obtain ⟨⟨⟨⟨k0, k1⟩, k2⟩, k3⟩, k4⟩ := hw
    have hap : x.apart = [] := by simpa using k1
    have hheap : hh = st.h := by
      rcases Bool.or_eq_true _ _ ▸ k4 with hq | hr
      · cases hc : x.cls pur with
        | q => exact (outA_q hc e1).1
        | _ => rw [hc] at hq; cases hq
      · simp only [Bool.and_eq_true] at hr
        cases hc : x.cls pur with
        | r => exact (outA_r hpur hc e1).1
        | _ => rw [hc] at hr; cases hr.1
    subst hheap
    have a1 : ∀ k, k ∈ y.looks → put st.t x.dst vx k = st.t k := by
      intro k hk
      refine put_ne ?_
      intro n hn e
      subst e
      rw [hn] at k2
      simp at k2
      exact k2.1 hk
    refine ⟨r1, fun k hk => by rw [r2 k hk]; exact a1 k hk, ?_⟩
    intro hkept
    have a2 : ∀ n, x.dst = some n → y.dst ≠ some n := by
      intro n hn e
      rw [hn] at k2
      simp at k2
      exact k2.2 e
    have a3 : ∀ k, k ∈ x.looks → put st.t y.dst v k = st.t k := by
      intro k hk
      refine put_ne ?_
      intro n hn e
      subst e
      rw [hn] at k3
      simp at k3
      exact k3 hk
    have e2 : outA P env bs x st.t h2 = some (vx, h2) := by
      rcases Bool.or_eq_true _ _ ▸ k4 with hq | hr
      · cases hc : x.cls pur with
        | q => exact (outA_q hc e1).2 h2
        | _ => rw [hc] at hq; cases hq
      · simp only [Bool.and_eq_true] at hr
        obtain ⟨hr1, hr2⟩ := hr
        cases ha : addrOf x.op with
        | none => rw [ha] at hr2; cases hr2
        | some a =>
          rw [ha] at hr2
          simp only [Bool.and_eq_true] at hr2
          obtain ⟨hw1, hw2⟩ := hr2
          have hw1' : a ∈ y.watch := by simpa using hw1
          have hall := List.all_eq_true.1 hw2
          -- nobody between writes the address
          have hsame : ∀ (p' : List Nat) (s s' : St), (∀ k, k ∈ p' → j ≤ k ∧ k < i) → runOps P env bs (pickA al p') s = some s' → s'.t a = s.t a := by
            intro p'
            induction p' with
            | nil => intro s s' _ h; simp [pickA, runOps] at h; subst h; rfl
            | cons k p' ih =>
              intro s s' hk h
              obtain ⟨g1, g2⟩ := hk k (by simp)
              cases hz : al[k]? with
              | none =>
                simp only [pickA, List.filterMap_cons, hz] at h
                exact ih s s' (fun m hm => hk m (by simp [hm])) h
              | some z =>
                simp only [pickA, List.filterMap_cons, hz, runOps] at h
                obtain ⟨s1, f1, f2⟩ := Option.bind_eq_some_iff.1 h
                obtain ⟨⟨u, hu⟩, _, _, rfl⟩ := stepA_some.1 f1
                rw [ih _ s' (fun m hm => hk m (by simp [hm])) f2]
                simp only
                refine put_ne ?_
                intro n hn e
                subst e
                have := hall k (by simpa using g2)
                simp only [hz, hn] at this
                simp at this
                omega
          have hst : stp.t a = put st.t x.dst vx a := hsame p _ stp (fun k hk => ⟨Nat.le_of_lt (hpw'.1 k hk), (hp k (by simp [hk])).1⟩) h3
          have hst2 : put st.t x.dst vx a = st.t a := by
            refine put_ne ?_
            intro n hn e
            subst e
            have := hall j (by simpa using hji)
            simp only [hx, hn] at this
            simp at this
          have hk := hkept a hw1'
          rw [hst, hst2] at hk
          have hsx : x.slot = none := by
            cases hc : x.cls pur with
            | r => exact (cls_none hc (by intro k e; cases e) (by intro e; cases e)).1
            | _ => rw [hc] at hr1; cases hr1
          unfold outA at e1 ⊢
          simp only [slot_none hsx, Option.bind_some] at e1 ⊢
          obtain ⟨b, g1, g2⟩ := Option.bind_eq_some_iff.1 e1
          rw [g1, Option.bind_some]
          cases b with
          | true =>
            simp only [if_true] at g2 ⊢
            exact cls_addr ha hk g2
          | false =>
            simp only [Bool.false_eq_true, if_false] at g2 ⊢
            cases g2; rfl
    have e3 : stepA P env bs x ⟨put st.t y.dst v, h2⟩ = some ⟨put (put st.t x.dst vx) y.dst v, h2⟩ := by
      refine stepA_some.2 ⟨(vx, h2), ?_, by rw [hap]; simp, ?_⟩
      · simp only
        rw [outA_congr a3]
        exact e2
      · simp only [put_comm a2]
    rw [e3, Option.bind_some]
    exact r3 hkept

theorem front_e {bs : Option Nat} {env : Env} {pur : Nat → Bool} {al : List AOper} {i : Nat} {y : AOper} {q : List Nat} (hpur : ∀ f, pur f = true → PurEnv env f) (hi : al[i]? = some y) {stF : St} (p : List Nat) (st : St) (hpw : p.Pairwise (· < ·))
    (hp : ∀ j, j ∈ p → j < i ∧ ∃ x, al[j]? = some x ∧ watchOK pur al j i x y = true) (hr : runOps P env bs (pickA al (p ++ i :: q)) st = some stF) :
    ∃ st1, stepA P env bs y.clear st = some st1 ∧ runOps P env bs (pickA al (p ++ q)) st1 = some stF := by
  rw [pickA_append, runOps_append] at hr
  obtain ⟨stp, h1, h2⟩ := Option.bind_eq_some_iff.1 hr
  simp only [pickA, List.filterMap_cons, hi, runOps] at h2
  obtain ⟨st2, h3, h4⟩ := Option.bind_eq_some_iff.1 h2
  obtain ⟨⟨v, hh⟩, e1, ck, rfl⟩ := stepA_some.1 h3
  obtain ⟨r1, r2, r3⟩ := behind_ok hpur (v := v) (h2 := hh) p st stp hpw hp h1
  rw [outA_congr r2, r1] at e1
  refine ⟨⟨put st.t y.dst v, hh⟩, stepA_some.2 ⟨(v, hh), by rw [outA_clear]; exact e1, by simp [AOper.clear], rfl⟩, ?_⟩
  rw [pickA_append, runOps_append, r3 ?_, Option.bind_some]
  · exact h4
  · intro k hk
    unfold AOper.watch at hk
    obtain ⟨z, hz, hk⟩ := List.mem_flatMap.1 hk
    have := ck z hz
    rw [r1] at this
    cases z with
    | tmp n => simp [Operand.tm] at hk; subst hk; exact this
    | _ => simp [Operand.tm] at hk

theorem rem_set {n i : Nat} {listed : Array Bool} (hs : listed.size = n) (hn : i < n) : remOf n (listed.setIfInBounds i true) = (remOf n listed).filter (· ≠ i) := by
  unfold remOf
  rw [List.filter_filter]
  apply List.filter_congr
  intro k hk
  simp only [Array.getD_eq_getD_getElem?, Array.getElem?_setIfInBounds]
  by_cases e : i = k
  · subst e
    simp [hs, hn]
  · simp [e, Ne.symm e]

theorem rem_split {n i : Nat} {listed : Array Bool} (hs : listed.size = n) (hn : i < n) (hu : listed.getD i true = false) :
    ∃ p q, remOf n listed = p ++ i :: q ∧ remOf n (listed.setIfInBounds i true) = p ++ q ∧ (∀ j, j ∈ p → j < i ∧ listed.getD j true = false) ∧ p.Pairwise (· < ·) := by
  have hm : i ∈ remOf n listed := mem_rem.2 ⟨hn, hu⟩
  obtain ⟨p, q, he⟩ := List.append_of_mem hm
  have hpw : (remOf n listed).Pairwise (· < ·) := List.Pairwise.filter _ List.pairwise_lt_range
  rw [he] at hpw
  obtain ⟨h1, h2, h3⟩ := List.pairwise_append.1 hpw
  have h2' := List.pairwise_cons.1 h2
  refine ⟨p, q, he, ?_, ?_, h1⟩
  · rw [rem_set hs hn, he, List.filter_append, List.filter_cons]
    simp only [ne_eq, not_true_eq_false, decide_false, Bool.false_eq_true, if_false]
    congr 1
    · apply List.filter_eq_self.2
      intro j hj
      have := h3 j hj i (by simp)
      simp; omega
    · apply List.filter_eq_self.2
      intro j hj
      have := h2'.1 j hj
      simp; omega
  · intro j hj
    refine ⟨h3 j hj i (by simp), ?_⟩
    have : j ∈ remOf n listed := by rw [he]; simp [hj]
    exact (mem_rem.1 this).2

theorem topo_ready {mo : Region.Mode} {ops : Array Oper} {listed : Array Bool} (hsz : listed.size = ops.size) : ∀ (l seen : List Nat), topoGo mo ops l seen = true → (∀ j, j ∈ seen → listed.getD j false = true) → (∃ i, i ∈ l ∧ i < ops.size ∧ listed.getD i true = false) → Region.ready mo ops listed ≠ []
  | [], seen, _, _, h => by obtain ⟨i, hi, _⟩ := h; simp at hi
  | k :: l, seen, ht, hs, h => by
    simp only [topoGo, Bool.and_eq_true] at ht
    obtain ⟨h1, h2⟩ := ht
    cases ho : ops[k]? with
    | none => rw [ho] at h1; cases h1
    | some o =>
      rw [ho] at h1
      have hlt : k < ops.size := (Array.getElem?_eq_some_iff.1 ho).1
      cases hl : listed.getD k true with
      | true =>
        refine topo_ready hsz l (k :: seen) h2 ?_ ?_
        · intro j hj
          rcases List.mem_cons.1 hj with rfl | hj
          · have hlt2 : j < listed.size := by omega
            simpa [Array.getD_eq_getD_getElem?, hlt2] using hl
          · exact hs j hj
        · obtain ⟨i, hi, hi2, hi3⟩ := h
          rcases List.mem_cons.1 hi with rfl | hi
          · rw [hl] at hi3; cases hi3
          · exact ⟨i, hi, hi2, hi3⟩
      | false =>
        intro he
        have : k ∈ Region.ready mo ops listed := by
          refine mem_ready.2 ⟨hl, o, ho, ?_⟩
          intro e he2 hb
          have := List.all_eq_true.1 h1 e (by simpa using he2)
          simp only [hb, Bool.not_true, Bool.false_or, List.contains_eq_mem, decide_eq_true_eq] at this
          exact hs _ this
        rw [he] at this
        simp at this

theorem topoGo_any {ops : Array Oper} : ∀ (l seen : List Nat), topoGo .text ops l seen = true → topoGo .any ops l seen = true
  | [], _, _ => rfl
  | k :: l, seen, h => by
    simp only [topoGo, Bool.and_eq_true] at h ⊢
    refine ⟨?_, topoGo_any l _ h.2⟩
    cases ho : ops[k]? with
    | none => rw [ho] at h; cases h.1
    | some o =>
      rw [ho] at h
      simp only [List.all_eq_true, Bool.or_eq_true, Bool.not_eq_true'] at h ⊢
      intro e he
      rcases h.1 e he with h3 | h3
      · left
        cases hb : Region.binds .any e with
        | false => rfl
        | true => rw [binds_any hb] at h3; cases h3
      · exact .inr h3

theorem topo_nonempty {mo : Region.Mode} {ops : Array Oper} {listed : Array Bool} (hsz : listed.size = ops.size) (ht : topoOK ops = true) (h : ∃ i, i < ops.size ∧ listed.getD i true = false) : Region.ready mo ops listed ≠ [] := by
  obtain ⟨i, h1, h2⟩ := h
  unfold topoOK at ht
  simp only [Bool.and_eq_true] at ht
  obtain ⟨t1, t2, t3⟩ := ht
  cases mo with
  | text => exact topo_ready hsz _ _ t1 (by simp) ⟨i, by simpa using h1, h1, h2⟩
  | any => exact topo_ready hsz _ _ (topoGo_any _ _ t1) (by simp) ⟨i, by simpa using h1, h1, h2⟩
  | gc =>
    have := List.all_eq_true.1 t3 i (by simpa using h1)
    exact topo_ready hsz _ _ t2 (by simp) ⟨i, by simpa using this, h1, h2⟩

theorem draw_ok {bs : Option Nat} {env : Env} {pur : Nat → Bool} {ops : Array Oper} {al al0 : List AOper} {mo : Region.Mode} (hE : EnvOK P env) (hpur : ∀ f, pur f = true → PurEnv env f) (hd : drawOK pur ops al = true)
    (hc : ops.toList.mapM (compOper P md sq N ops) = some al0) (hap : ∀ (i : Nat) (o : AOper), al0[i]? = some o → ∃ ap sl, al[i]? = some { o with apart := ap, slot := sl } ∧ (sq = true → sl = none)) (Q : Exit → Act → World → Prop) : ∀ (fuel : Nat) (listed : Array Bool) (st st' : St) (a : Act) (w : World) (G : List Nat), listed.size = ops.size → (remOf ops.size listed).length = fuel →
    (∀ k, listed.getD k false = true → ∀ j, ((masksGo ops.toList []).getD k 0).testBit j = true → listed.getD j false = true) → Sim base X N st a w G →
    runOps P env bs (pickA al (remOf ops.size listed)) st = some st' →
    (∀ a' w' G', Ext w st.h G w' st'.h G' → Sim base X N st' a' w' G' → a'.defers = a.defers → Q .normal a' w') → wpAny P mo ops Q fuel listed a w := by
  have hal : ∀ (i : Nat) (o : Oper), ops[i]? = some o → ∃ ao ap sl, al[i]? = some { ao with apart := ap, slot := sl } ∧ (sq = true → sl = none) ∧ compOper P md sq N ops o = some ao := by
    intro i o ho
    obtain ⟨ao, h1, h2⟩ := mapM_opt_get hc i o (by rw [Array.getElem?_toList]; exact ho)
    obtain ⟨ap, sl, h3, h4⟩ := hap i ao h1
    exact ⟨ao, ap, sl, h3, h4, h2⟩
  have hat : ∀ (i : Nat) (o : Oper), ops[i]? = some o → (masksGo ops.toList []).getD i 0 = maskOf (masksGo ops.toList []) o ∧ ∀ j, j < i → drawPair pur (masksGo ops.toList []) al i j = true := by
    intro i o ho
    have hlt := (Array.getElem?_eq_some_iff.1 ho).1
    unfold drawOK at hd
    simp only [Bool.and_eq_true] at hd
    have := List.all_eq_true.1 hd.2 i (by simpa using hlt)
    simp only [ho, Bool.and_eq_true, beq_iff_eq] at this
    obtain ⟨h1, h3⟩ := this
    exact ⟨h1, fun j hj => List.all_eq_true.1 h3 j (by simpa using hj)⟩
  intro fuel
  induction fuel with
  | zero =>
    intro listed st st' a w G hsz hlen hcl hS hr hn
    have h0 : remOf ops.size listed = [] := List.eq_nil_of_length_eq_zero hlen
    rw [h0] at hr
    simp [pickA, runOps] at hr
    subst hr
    refine ⟨?_, hn a w G (Ext.refl _ _ _) hS rfl⟩
    apply List.eq_nil_iff_forall_not_mem.2
    intro i hi
    obtain ⟨h2, o, h1, _⟩ := mem_ready.1 hi
    have : i ∈ remOf ops.size listed := mem_rem.2 ⟨(Array.getElem?_eq_some_iff.1 h1).1, h2⟩
    rw [h0] at this
    simp at this
  | succ fuel ih =>
    intro listed st st' a w G hsz hlen hcl hS hr hn
    refine ⟨?_, ?_⟩
    · -- one of those to come is ready
      have ht : topoOK ops = true := by
        unfold drawOK at hd
        simp only [Bool.and_eq_true] at hd
        exact hd.1
      refine fun h0 => absurd h0 (topo_nonempty hsz ht ?_)
      match hrem : remOf ops.size listed with
      | [] => rw [hrem] at hlen; simp at hlen
      | i :: q =>
        have hm : i ∈ remOf ops.size listed := by rw [hrem]; simp
        obtain ⟨m1, m2⟩ := mem_rem.1 hm
        exact ⟨i, m1, m2⟩
    · intro i hi
      obtain ⟨m2, o, ho, m3⟩ := mem_ready.1 hi
      have m1 : i < ops.size := (Array.getElem?_eq_some_iff.1 ho).1
      obtain ⟨ao, ap, sl, ha1, ha0, ha2⟩ := hal i _ ho
      obtain ⟨q1, q3⟩ := hat i _ ho
      obtain ⟨p, q, s1, s2, s3, s4⟩ := rem_split hsz m1 m2
      -- whatever must come before i has come
      have hbef : ∀ j, ((masksGo ops.toList []).getD i 0).testBit j = true → listed.getD j false = true := by
        intro j hj
        rw [q1] at hj
        rcases mask_bits _ _ hj with h | ⟨e, e1, e2, e3⟩
        · simp at h
        · have hl : listed.getD e.on false = true := m3 e (by simpa using e1) (binds_any e2)
          rcases e3 with e3 | e3
          · rw [← e3]; exact hl
          · exact hcl _ hl j e3
      have hsw : ∀ j, j ∈ p → ∃ x, al[j]? = some x ∧ (if (AOper.cls pur { ao with apart := ap, slot := sl }).isE then watchOK pur al j i x { ao with apart := ap, slot := sl } else swapOK pur x { ao with apart := ap, slot := sl }) = true := by
        intro j hj
        obtain ⟨j1, j2⟩ := s3 j hj
        have := q3 j j1
        unfold drawPair at this
        rcases Bool.or_eq_true _ _ ▸ this with h | h
        · have := hbef j h
          have hlt : j < listed.size := by omega
          simp [Array.getD_eq_getD_getElem?, hlt] at this j2
          rw [this] at j2
          cases j2
        · rw [ha1] at h
          cases hx : al[j]? with
          | none => rw [hx] at h; simp at h
          | some x => rw [hx] at h; exact ⟨x, rfl, h⟩
      rw [s1] at hr
      have hfront : ∃ st1, stepA P env bs (AOper.clear { ao with apart := ap, slot := sl }) st = some st1 ∧ runOps P env bs (pickA al (p ++ q)) st1 = some st' := by
        cases hcl : (AOper.cls pur { ao with apart := ap, slot := sl }).isE with
        | true =>
          refine front_e hpur ha1 p st s4 ?_ hr
          intro j hj
          obtain ⟨x, hx1, hx2⟩ := hsw j hj
          rw [hcl, if_pos rfl] at hx2
          exact ⟨(s3 j hj).1, x, hx1, hx2⟩
        | false =>
          refine front_ok hpur ha1 p st (fun k _ => hS.ref k) ?_ hr
          intro j hj
          obtain ⟨x, hx1, hx2⟩ := hsw j hj
          rw [hcl, if_neg (by simp)] at hx2
          exact ⟨x, hx1, hx2⟩
      obtain ⟨st1, t1, t2⟩ := hfront
      refine stepA_wp (ap := []) (sl := sl) hE hS ho ha2 ha0 t1 Q ?_
      intro a1 w1 G1 hE1 hS1 hd1
      refine ih (listed.setIfInBounds i true) st1 st' a1 w1 G1 (by simpa using hsz) ?_ ?_ hS1 (by rw [s2]; exact t2) ?_
      · rw [s2]; rw [s1] at hlen; simp at hlen ⊢; omega
      · intro k hk j hj
        by_cases e : i = k
        · subst e
          exact getD_set_true (hbef j hj)
        · rw [getD_set_ne _ e] at hk
          exact getD_set_true (hcl k hk j hj)
      · intro a2 w2 G2 hE2 hS2 hd2
        exact hn a2 w2 G2 (hE1.trans hE2) hS2 (hd2.trans hd1)

theorem rem_all (n : Nat) : remOf n (Array.replicate n false) = List.range n := by
  unfold remOf
  apply List.filter_eq_self.2
  intro i hi
  have : i < n := by simpa using hi
  simp [Array.getD_eq_getD_getElem?, this]

theorem pick_all (al : List AOper) : pickA al (List.range al.length) = al := by
  unfold pickA
  have : (List.range al.length).map (fun i => al[i]?) = al.map some := by
    apply List.ext_getElem
    · simp
    · intro i h1 h2
      simp at h1 h2 ⊢
  have h2 : (List.range al.length).filterMap (al[·]?) = ((List.range al.length).map (fun i => al[i]?)).filterMap id := by
    rw [List.filterMap_map]; rfl
  rw [h2, this, List.filterMap_map]
  simp [Function.comp_def]

/-- What is owed of a piece of code. -/
def CodeOK (P : Program) (base : Nat) (X : Nat → Prop) (N : Nat) (c : Code) (st : St) (ex : AExit) (st' : St) : Prop :=
  ∀ (a : Act) (w : World) (G : List Nat) (Q : Exit → Act → World → Prop), Sim base X N st a w G →
    (∀ a' w' G', Ext w st.h G w' st'.h G' → Sim base X N st' a' w' G' → a'.defers = a.defers → Q ex.to a' w') → c.wp P Q a w

theorem loop_ok {c : Code} {f : St → Option (AExit × St)} (hf : ∀ st ex st', f st = some (ex, st') → CodeOK P base X N c st ex st') : ∀ (n : Nat) (st : St) (ex : AExit) (st' : St), iterN f n st = some (ex, st') → CodeOK P base X N (.loop c) st ex st' := by
  intro n st ex st' hn a w G Q hS hq b k cs
  have key : ∀ (n : Nat) (st : St) (a : Act) (w : World) (G : List Nat), iterN f n st = some (ex, st') → Sim base X N st a w G →
      (∀ a' w' G', Ext w st.h G w' st'.h G' → Sim base X N st' a' w' G' → a'.defers = a.defers → Q ex.to a' w') →
      ∃ e a' w', Q e a' w' ∧ Arrives P (lone (b.at a (.code c :: .inLoop c :: k)) cs w) b k cs e a' w' := by
    intro n
    induction n with
    | zero => intro st a w G h; simp [iterN] at h
    | succ n ih =>
      intro st a w G h hS hq
      rw [iterN] at h
      obtain ⟨⟨e1, st1⟩, h1, h2⟩ := Option.bind_eq_some_iff.1 h
      have hbody := hf st e1 st1 h1 a w G (fun e a' w' => e = e1.to ∧ ∃ G', Ext w st.h G w' st1.h G' ∧ Sim base X N st1 a' w' G' ∧ a'.defers = a.defers) hS (fun a' w' G' hE hS' hd => ⟨rfl, G', hE, hS', hd⟩) b (.inLoop c :: k) cs
      obtain ⟨e, a1, w1, ⟨rfl, G1, hE1, hS1, hd1⟩, harr⟩ := hbody
      cases e1 with
      | normal =>
        simp only at h2
        obtain ⟨e2, a2, w2, hq2, harr2⟩ := ih st1 a1 w1 G1 h2 hS1 (fun a' w' G' hE hS' hd => hq a' w' G' (hE1.trans hE) hS' (hd.trans hd1))
        exact ⟨e2, a2, w2, hq2, .of_steps (Steps.trans harr (.one step_inLoop)) harr2⟩
      | exit id =>
        simp only [Option.some.injEq, Prod.mk.injEq] at h2
        obtain ⟨rfl, rfl⟩ := h2
        exact ⟨_, a1, w1, hq a1 w1 G1 hE1 hS1 hd1, .pass (x := .inLoop c) rfl (fun _ _ => .inl (by simp [AExit.to])) harr⟩
      | ret =>
        simp only [Option.some.injEq, Prod.mk.injEq] at h2
        obtain ⟨rfl, rfl⟩ := h2
        exact ⟨_, a1, w1, hq a1 w1 G1 hE1 hS1 hd1, .pass (x := .inLoop c) rfl (fun _ _ => .inl (by simp [AExit.to])) harr⟩
  obtain ⟨e, a', w', hq', harr⟩ := key n st a w G hn hS hq
  exact ⟨e, a', w', hq', .of_steps (.one step_loop) harr⟩

theorem free_ok (hS : SimH base X w H G) : ∃ G', Ext w H G w (H ++ [.free]) G' ∧ SimH base X w (H ++ [.free]) G' := by
  obtain ⟨G', h1, h2, h3, h4, h5, h6⟩ := newSlot_at (slot := none) (s := .free) (H' := H ++ [.free]) (b := H.length) hS.len 0 rfl
  have hE : Ext w H G w (H ++ [.free]) G' :=
    Ext.new hS H.length _ w.heap.size (.inl h1) h2 h3 h4 (fun h => by cases h) (Nat.le_refl _) rfl rfl rfl (Nat.le_refl _) (fun _ _ => rfl)
  refine ⟨G', hE, ?_⟩
  refine hS.upd H.length _ w.heap.size h6 h2 h3 h4 hE ?_ ?_
  · intro b1 s1 k1 hne hb1 hl1 hg1
    rfl
  · intro h; cases h

theorem frees_ok : ∀ (n : Nat) {H : Heap} {G : List Nat}, SimH base X w H G → ∃ G', Ext w H G w (H ++ List.replicate n .free) G' ∧ SimH base X w (H ++ List.replicate n .free) G'
  | 0, H, G, hS => ⟨G, by simpa using Ext.refl w H G, by simpa using hS⟩
  | n + 1, H, G, hS => by
    obtain ⟨G1, e1, s1⟩ := free_ok hS
    obtain ⟨G2, e2, s2⟩ := frees_ok n s1
    refine ⟨G2, ?_, ?_⟩
    · rw [List.append_assoc] at e2
      exact e1.trans e2
    · rw [List.append_assoc] at s2
      exact s2

theorem exec_ok {env : Env} {pur : Nat → Bool} (hE : EnvOK P env) (hpur : ∀ f, pur f = true → PurEnv env f) : ∀ (c : Code) (ac : ACode) (st : St) (ex : AExit) (st' : St), compile P pur md N c = some ac → exec P env ac st = some (ex, st') → CodeOK P base X N c st ex st' := by
  intro c
  induction c with
  | skip =>
    intro ac st ex st' hc he a w G Q hS hq
    simp [compile] at hc; subst hc
    simp [exec] at he
    obtain ⟨rfl, rfl⟩ := he
    exact wp_skip (hq a w G (Ext.refl _ _ _) hS rfl)
  | region id ops draw =>
    intro ac st ex st' hc he a w G Q hS hq
    simp only [compile] at hc
    obtain ⟨al, h1, hc⟩ := Option.bind_eq_some_iff.1 hc
    cases draw with
    | false =>
      simp only [Bool.false_eq_true, if_false] at hc
      cases hc
      simp only [exec] at he
      obtain ⟨st1, h2, h3⟩ := Option.map_eq_some_iff.1 he
      simp only [Prod.mk.injEq] at h3
      obtain ⟨rfl, rfl⟩ := h3
      refine wp_region (runOps_ok (md := md) (sq := !false) hE Q _ al st st1 a w G hS ?_ h2 hq)
      rw [mapM_range (compOper P md (!false) N ops) ops]
      exact h1
    | true =>
      simp only [if_true] at hc
      split at hc
      · rename_i hdk
        cases hc
        generalize hal : withApart pur (masksGo ops.toList []) (withSlots pur (masksGo ops.toList []) al) = al2 at hdk he
        have hlen : al2.length = ops.size := by
          rw [← hal]
          unfold withApart withSlots
          rw [List.length_mapIdx, List.length_mapIdx, mapM_opt_length h1]; simp
        have hap : ∀ (i : Nat) (o : AOper), al[i]? = some o → ∃ ap sl, al2[i]? = some { o with apart := ap, slot := sl } ∧ ((!true) = true → sl = none) := by
          intro i o ho
          rw [← hal]
          unfold withApart withSlots
          rw [List.getElem?_mapIdx, List.getElem?_mapIdx, ho]
          simp only [Option.map_some]
          split <;> split <;> exact ⟨_, _, rfl, fun h => by cases h⟩
        have key : ∀ (bs : Option Nat) (H0 : Heap) (G0 : List Nat), Ext w st.h G w H0 G0 → Sim base X N ⟨st.t, H0⟩ a w G0 → runOps P env bs al2 ⟨st.t, H0⟩ = some st' → ex = .normal → (Code.region id ops true).wp P Q a w := by
          intro bs H0 G0 hE0 hS0 h2 hex
          subst hex
          refine wp_region_draw fun tt => ?_
          have hw : Ext w H0 G0 { w with drawn := w.drawn + 1 } H0 G0 := Ext.quiet hS0.heap rfl rfl rfl (Nat.le_refl _) (fun _ _ => rfl)
          have hS' : Sim base X N ⟨st.t, H0⟩ a { w with drawn := w.drawn + 1 } G0 := ⟨hS0.heap.quiet hw (fun _ _ => rfl), hS0.tmps.ext hw, hS0.size⟩
          have hall : ∀ (mo : Region.Mode) (tt : Nat), wpOps P ops Q (Region.linearise mo ops tt) a { w with drawn := w.drawn + 1 } := by
            intro mo tt
            refine wpAny_sound ops.size tt _ a _ ?_
            refine draw_ok (mo := mo) (bs := bs) hE hpur hdk h1 hap Q ops.size _ ⟨st.t, H0⟩ st' a _ G0 (by simp) (by rw [rem_all]; simp) ?_ hS' ?_ (fun a' w' G' e1 e2 e3 => hq a' w' G' (hE0.trans (hw.trans e1)) e2 e3)
            · intro k hk
              by_cases hlt : k < ops.size
              · simp [Array.getD_eq_getD_getElem?, hlt] at hk
              · simp [Array.getD_eq_getD_getElem?, hlt] at hk
            · rw [rem_all, ← hlen, pick_all]
              exact h2
          unfold Region.schedule
          split
          · exact hall _ _
          · exact hall _ _
        unfold drawn at he
        split at he
        · simp only [exec] at he
          obtain ⟨st1, h2, h3⟩ := Option.map_eq_some_iff.1 he
          simp only [Prod.mk.injEq] at h3
          obtain ⟨rfl, rfl⟩ := h3
          exact key none st.h G (Ext.refl _ _ _) hS h2 rfl
        · simp only [exec] at he
          obtain ⟨st1, h2, h3⟩ := Option.map_eq_some_iff.1 he
          simp only [Prod.mk.injEq] at h3
          obtain ⟨rfl, rfl⟩ := h3
          obtain ⟨G0, e1, e2⟩ := frees_ok (slotsOf pur (masksGo ops.toList []) al) hS.heap
          exact key _ _ G0 e1 ⟨e2, hS.tmps.ext e1, hS.size⟩ h2 rfl
      · cases hc
  | seq x y ihx ihy =>
    intro ac st ex st' hc he a w G Q hS hq
    simp only [compile] at hc
    obtain ⟨ax, h1, hc⟩ := Option.bind_eq_some_iff.1 hc
    obtain ⟨ay, h2, rfl⟩ := Option.map_eq_some_iff.1 hc
    simp only [exec] at he
    obtain ⟨⟨e1, st1⟩, h3, h4⟩ := Option.bind_eq_some_iff.1 he
    refine wp_seq (ihx ax st e1 st1 h1 h3 a w G _ hS ?_)
    intro a1 w1 G1 hE1 hS1 hd1
    cases e1 with
    | normal =>
      simp only at h4
      refine ihy ay st1 ex st' h2 h4 a1 w1 G1 Q hS1 ?_
      intro a2 w2 G2 hE2 hS2 hd2
      exact hq a2 w2 G2 (hE1.trans hE2) hS2 (hd2.trans hd1)
    | exit id =>
      simp only [Option.some.injEq, Prod.mk.injEq] at h4
      obtain ⟨rfl, rfl⟩ := h4
      exact hq a1 w1 G1 hE1 hS1 hd1
    | ret =>
      simp only [Option.some.injEq, Prod.mk.injEq] at h4
      obtain ⟨rfl, rfl⟩ := h4
      exact hq a1 w1 G1 hE1 hS1 hd1
  | cond cnd x y ihx ihy =>
    intro ac st ex st' hc he a w G Q hS hq
    simp only [compile] at hc
    obtain ⟨ax, h1, hc⟩ := Option.bind_eq_some_iff.1 hc
    obtain ⟨ay, h2, rfl⟩ := Option.map_eq_some_iff.1 hc
    simp only [exec] at he
    split at he
    · rename_i f tt hv
      have hT := ev_ok (h := st.h) hS.tmps cnd
      rw [show (⟨st.t, st.h⟩ : St) = st from rfl, hv] at hT
      have hb : a.eval cnd = .bool tt := by
        generalize a.eval cnd = u at hT
        cases hT with
        | i hi => cases hi; rfl
      refine wp_cond hb ?_
      cases tt with
      | true => exact ihx ax st ex st' h1 he a w G Q hS hq
      | false => exact ihy ay st ex st' h2 he a w G Q hS hq
    · cases he
  | block id c ih =>
    intro ac st ex st' hc he a w G Q hS hq
    simp only [compile] at hc
    obtain ⟨ax, h1, rfl⟩ := Option.map_eq_some_iff.1 hc
    simp only [exec] at he
    obtain ⟨⟨e1, st1⟩, h3, h4⟩ := Option.map_eq_some_iff.1 he
    refine wp_block (ih ax st e1 st1 h1 h3 a w G _ hS ?_)
    intro a1 w1 G1 hE1 hS1 hd1
    cases e1 with
    | normal =>
      simp only [Prod.mk.injEq] at h4
      obtain ⟨rfl, rfl⟩ := h4
      exact hq a1 w1 G1 hE1 hS1 hd1
    | exit id' =>
      simp only at h4
      simp only [AExit.to, Exit.inBlock]
      by_cases e : id' = id
      · rw [if_pos e] at h4 ⊢
        simp only [Prod.mk.injEq] at h4
        obtain ⟨rfl, rfl⟩ := h4
        exact hq a1 w1 G1 hE1 hS1 hd1
      · rw [if_neg e] at h4 ⊢
        simp only [Prod.mk.injEq] at h4
        obtain ⟨rfl, rfl⟩ := h4
        exact hq a1 w1 G1 hE1 hS1 hd1
    | ret =>
      simp only [Prod.mk.injEq] at h4
      obtain ⟨rfl, rfl⟩ := h4
      exact hq a1 w1 G1 hE1 hS1 hd1
  | loop c ih =>
    intro ac st ex st' hc he
    simp only [compile] at hc
    obtain ⟨ax, h1, rfl⟩ := Option.map_eq_some_iff.1 hc
    simp only [exec] at he
    obtain ⟨n, hn⟩ := iterW_n he
    exact loop_ok (fun st ex st' h => ih ax st ex st' h1 h) n st ex st' hn
  | exit id =>
    intro ac st ex st' hc he a w G Q hS hq
    simp [compile] at hc; subst hc
    simp [exec] at he
    obtain ⟨rfl, rfl⟩ := he
    exact wp_exit (hq a w G (Ext.refl _ _ _) hS rfl)
  | ret =>
    intro ac st ex st' hc he a w G Q hS hq
    simp [compile] at hc; subst hc
    simp [exec] at he
    obtain ⟨rfl, rfl⟩ := he
    exact wp_ret (hq a w G (Ext.refl _ _ _) hS rfl)
  | _ => intro ac st ex st' hc; simp [compile] at hc

end
end Go.AM
