/- Whole function bodies on the abstract machine, and that the model does what it says. No condition. -/
import Derived.Test.YtlfbhelaehdemaaLabA16b
import Derived.Orders
set_option linter.unusedVariables false
set_option linter.unusedSimpArgs false
namespace Go.AM

/-- What must come before an operation, as bits; out of the masks of what comes before. -/
def maskOf (masks : List Nat) (o : Oper) : Nat := o.after.toList.foldl (fun s e => if Region.binds .any e then s ||| 2 ^ e.on ||| masks.getD e.on 0 else s) 0

def masksGo : List Oper → List Nat → List Nat
  | [], acc => acc
  | o :: l, acc => masksGo l (acc ++ [maskOf acc o])

def drawPair (pur : Nat → Bool) (m : List Nat) (al : List AOper) (i j : Nat) : Bool :=
  (m.getD i 0).testBit j || match al[j]?, al[i]? with | some x, some y => swapOK pur x y | _, _ => false

/-- Whatever order the region's operations are taken in, it comes to the same as the text's. -/
def drawOK (pur : Nat → Bool) (ops : Array Oper) (al : List AOper) : Bool :=
  let m := masksGo ops.toList []
  (List.range ops.size).all fun i =>
    match ops[i]? with
    | some o => m.getD i 0 == maskOf m o && o.after.toList.all (fun e => e.on < i) && (List.range i).all (drawPair pur m al i)
    | none => false

def compile (P : Program) (pur : Nat → Bool) (N : Nat) : Code → Option ACode
  | .skip => some .skip
  | .region _ ops draw => (ops.toList.mapM (compOper P N ops)).bind fun al => if draw = false ∨ drawOK pur ops al = true then some (.ops al) else none
  | .seq a b => (compile P pur N a).bind fun x => (compile P pur N b).map fun y => .seq x y
  | .cond c a b => (compile P pur N a).bind fun x => (compile P pur N b).map fun y => .cond c x y
  | .block id c => (compile P pur N c).map (.block id)
  | .loop c => (compile P pur N c).map .loop
  | .exit id => some (.exit id)
  | .ret => some .ret
  | _ => none

section
variable {P : Program} {base : Nat} {X : Nat → Prop} {w : World} {H : Heap} {G : List Nat} {t : Nat → V} {N : Nat}

/-- The whole of what holds between the two machines. -/
structure Sim (base : Nat) (X : Nat → Prop) (N : Nat) (st : St) (a : Act) (w : World) (G : List Nat) : Prop where
  heap : SimH base X w st.h G
  tmps : TV w base (Mof X st.h G) st.h G st.t a.tmps
  size : a.tmps.size = N

theorem TV.ext {w' : World} {H' : Heap} {G' : List Nat} {tmps : Array Value} (h : TV w base (Mof X H G) H G t tmps) (hE : Ext w H G w' H' G') : TV w' base (Mof X H' G') H' G' t tmps :=
  fun k => (h k).ext hE

theorem TV.put {M : Nat → Prop} {a : Act} {dst : Option Nat} {v : V} {x : Value} (h : TV w base M H G t a.tmps) (hv : RV w base M H G v x) (hd : dst.all (· < a.tmps.size) = true) :
    TV w base M H G (put t dst v) (a.put dst x).tmps := by
  cases dst with
  | none => exact h
  | some d =>
    simp at hd
    intro k
    simp only [AM.put, Act.put]
    by_cases e : k = d
    · subst e
      rw [if_pos rfl]
      simp only [Array.getD_eq_getD_getElem?, Array.getElem?_setIfInBounds]
      simp only [if_true, hd, Option.getD_some]
      exact hv
    · rw [if_neg e]
      have := h k
      simp only [Array.getD_eq_getD_getElem?, Array.getElem?_setIfInBounds] at this ⊢
      rw [if_neg (Ne.symm e)]
      exact this

theorem put_size (a : Act) (dst : Option Nat) (x : Value) : (a.put dst x).tmps.size = a.tmps.size := by
  cases dst <;> simp [Act.put]

theorem put_defers (a : Act) (dst : Option Nat) (x : Value) : (a.put dst x).defers = a.defers := by
  cases dst <;> rfl

theorem wanted_ok {a : Act} {ops : Array Oper} {o : Oper} {ao : AOper} {b : Bool} {st : St} (hS : Sim base X N st a w G) (hc : compOper P N ops o = some ao) (hw : wantedA ao st.t = some b) : Region.wanted o (yielded ops a.tmps) = b := by
  unfold compOper at hc
  split at hc
  · obtain ⟨aop, _, hc⟩ := Option.bind_eq_some_iff.1 hc
    split at hc
    · rename_i hg
      cases hc
      simp only [wantedA, Option.some.injEq] at hw
      subst hw
      simp [Region.wanted, hg]
    · rename_i j want hg
      obtain ⟨d, hd, hc⟩ := Option.bind_eq_some_iff.1 hc
      split at hc
      · rename_i hlt
        cases hc
        have hT := hS.tmps d
        have hsz := hS.size
        have hlt' : d < a.tmps.size := by rw [hsz]; exact hlt
        have hget : a.tmps[d]? = some (a.tmps.getD d undef) := by
          simp [Array.getD_eq_getD_getElem?, hlt']
        simp only [wantedA] at hw
        split at hw
        · rename_i f b' he
          cases hw
          rw [he] at hT
          generalize a.tmps.getD d undef = u at hT hget
          cases hT with
          | i hi =>
            cases hi
            simp only [Region.wanted, hg, yielded, hd, Option.bind_some, hget]
            cases b' <;> cases want <;> rfl
        · rename_i f he
          cases hw
          rw [he] at hT
          generalize a.tmps.getD d undef = u at hT hget
          cases hT with
          | i hi =>
            cases hi
            simp only [Region.wanted, hg, yielded, hd, Option.bind_some, hget]
            cases want <;> rfl
        · cases hw
      · cases hc
  · cases hc

theorem compOper_op {ops : Array Oper} {o : Oper} {ao : AOper} (hc : compOper P N ops o = some ao) : (∃ op0, compOp P o = some op0 ∧ ao.op = normOp P op0) ∧ ao.dst = o.dst ∧ o.dst.all (· < N) = true := by
  unfold compOper at hc
  split at hc
  · rename_i hd
    obtain ⟨aop, h1, hc⟩ := Option.bind_eq_some_iff.1 hc
    split at hc
    · cases hc; exact ⟨⟨_, h1, rfl⟩, rfl, hd⟩
    · obtain ⟨d, _, hc⟩ := Option.bind_eq_some_iff.1 hc
      split at hc
      · cases hc; exact ⟨⟨_, h1, rfl⟩, rfl, hd⟩
      · cases hc
  · cases hc

/-- One operation of a region. -/
theorem stepA_wp {env : Env} {slot : Option Nat} {ops : Array Oper} {o : Oper} {ao : AOper} {i : Nat} {K : Act → World → Prop} {a : Act} {st st' : St} (hE : EnvOK P env) (hS : Sim base X N st a w G) (ho : ops[i]? = some o) (hc : compOper P N ops o = some ao)
    (hs : stepA P env slot ao st = some st') (Q : Exit → Act → World → Prop)
    (hn : ∀ a' w' G', Ext w st.h G w' st'.h G' → Sim base X N st' a' w' G' → a'.defers = a.defers → K a' w') : wpOp P ops Q i K a w := by
  obtain ⟨⟨op0, c1, c4⟩, c2, c3⟩ := compOper_op hc
  obtain ⟨b, hb, hs⟩ := Option.bind_eq_some_iff.1 hs
  have hw := wanted_ok hS hc hb
  simp only [wpOp, ho, hw]
  have hd : o.dst.all (· < a.tmps.size) = true := by rw [hS.size]; exact c3
  cases b with
  | true =>
    simp only [if_true] at hs ⊢
    obtain ⟨⟨v, H'⟩, h1, rfl⟩ := Option.map_eq_some_iff.1 hs
    rw [c4] at h1
    left
    refine step_ok hE hS.heap hS.tmps c1 (normOp_ok h1) _ Q ?_
    intro x w' G' hE' hS' hv
    refine hn _ w' G' hE' ⟨hS', ?_, by rw [put_size]; exact hS.size⟩ (put_defers _ _ _)
    rw [c2]
    exact (hS.tmps.ext hE').put hv hd
  | false =>
    simp only [Bool.false_eq_true, if_false] at hs ⊢
    cases hs
    refine hn _ w G (Ext.refl _ _ _) ⟨hS.heap, ?_, by rw [put_size]; exact hS.size⟩ (put_defers _ _ _)
    rw [c2]
    exact hS.tmps.put RV.undef hd

theorem stepA_ok {env : Env} {slot : Option Nat} {ops : Array Oper} {o : Oper} {ao : AOper} {i : Nat} {rest : List Nat} {a : Act} {st st' : St} (hE : EnvOK P env) (hS : Sim base X N st a w G) (ho : ops[i]? = some o) (hc : compOper P N ops o = some ao)
    (hs : stepA P env slot ao st = some st') (Q : Exit → Act → World → Prop)
    (hn : ∀ a' w' G', Ext w st.h G w' st'.h G' → Sim base X N st' a' w' G' → a'.defers = a.defers → wpOps P ops Q rest a' w') : wpOps P ops Q (i :: rest) a w := by
  rw [wpOps_cons]
  exact stepA_wp hE hS ho hc hs Q hn

theorem runOps_ok {env : Env} {ops : Array Oper} (hE : EnvOK P env) (Q : Exit → Act → World → Prop) : ∀ (l : List Nat) (al : List AOper) (st st' : St) (a : Act) (w : World) (G : List Nat), Sim base X N st a w G →
    (l.mapM fun i => (ops[i]?).bind (compOper P N ops)) = some al → runOps P env al st = some st' →
    (∀ a' w' G', Ext w st.h G w' st'.h G' → Sim base X N st' a' w' G' → a'.defers = a.defers → Q .normal a' w') → wpOps P ops Q l a w
  | [], al, st, st', a, w, G, hS, hc, hr, hn => by
    simp at hc
    subst hc
    simp [runOps] at hr
    subst hr
    exact hn a w G (Ext.refl _ _ _) hS rfl
  | i :: l, al, st, st', a, w, G, hS, hc, hr, hn => by
    simp only [List.mapM_cons, Option.bind_eq_bind] at hc
    obtain ⟨ao, h1, hc⟩ := Option.bind_eq_some_iff.1 hc
    obtain ⟨al', h2, hc⟩ := Option.bind_eq_some_iff.1 hc
    simp at hc
    subst hc
    obtain ⟨o, ho, h3⟩ := Option.bind_eq_some_iff.1 h1
    simp only [runOps] at hr
    obtain ⟨st1, h4, h5⟩ := Option.bind_eq_some_iff.1 hr
    refine stepA_ok hE hS ho h3 h4 Q ?_
    intro a1 w1 G1 hE1 hS1 hd1
    refine runOps_ok hE Q l al' st1 st' a1 w1 G1 hS1 h2 h5 ?_
    intro a2 w2 G2 hE2 hS2 hd2
    exact hn a2 w2 G2 (hE1.trans hE2) hS2 (hd2.trans hd1)

theorem mapM_range {α β : Type} (f : α → Option β) (arr : Array α) : (List.range arr.size).mapM (fun i => (arr[i]?).bind f) = arr.toList.mapM f := by
  have : (List.range arr.size).map (fun i => arr[i]?) = arr.toList.map some := by
    apply List.ext_getElem
    · simp
    · intro i h1 h2
      simp at h1 h2 ⊢
  have h1 : (List.range arr.size).mapM (fun i => (arr[i]?).bind f) = ((List.range arr.size).map (fun i => arr[i]?)).mapM (fun x => x.bind f) := by rw [List.mapM_map]; rfl
  rw [h1, this, List.mapM_map]
  rfl

theorem mask_bits {m : List Nat} {j : Nat} : ∀ (l : List Edge) (s : Nat), (l.foldl (fun s e => if Region.binds .any e then s ||| 2 ^ e.on ||| m.getD e.on 0 else s) s).testBit j = true →
    s.testBit j = true ∨ ∃ e, e ∈ l ∧ Region.binds .any e = true ∧ (e.on = j ∨ (m.getD e.on 0).testBit j = true)
  | [], s, h => .inl h
  | e :: l, s, h => by
    simp only [List.foldl_cons] at h
    rcases mask_bits l _ h with h1 | ⟨e', h1, h2, h3⟩
    · split at h1
      · rename_i hb
        simp only [Nat.testBit_or, Bool.or_eq_true] at h1
        rcases h1 with (h1 | h1) | h1
        · exact .inl h1
        · refine .inr ⟨e, by simp, hb, .inl ?_⟩
          rw [Nat.testBit_two_pow] at h1
          simpa using h1
        · exact .inr ⟨e, by simp, hb, .inr h1⟩
      · exact .inl h1
    · exact .inr ⟨e', by simp [h1], h2, h3⟩

theorem binds_any {md : Region.Mode} {e : Edge} (h : Region.binds .any e = true) : Region.binds md e = true := by
  unfold Region.binds at h ⊢
  split at h <;> first | (exact absurd h (by decide)) | simp_all

/-- The operations that are still to come, in the text's order. -/
def remOf (n : Nat) (listed : Array Bool) : List Nat := (List.range n).filter fun i => !listed.getD i true

theorem mem_rem {n i : Nat} {listed : Array Bool} : i ∈ remOf n listed ↔ i < n ∧ listed.getD i true = false := by
  simp only [remOf, List.mem_filter, List.mem_range, Bool.not_eq_true', decide_eq_true_eq]

theorem mapM_opt_get {α β : Type} {f : α → Option β} : ∀ {l : List α} {r : List β}, l.mapM f = some r → ∀ (i : Nat) (x : α), l[i]? = some x → ∃ y, r[i]? = some y ∧ f x = some y
  | [], r, h, i, x, hx => by simp at hx
  | a :: l, r, h, i, x, hx => by
    simp only [List.mapM_cons, Option.bind_eq_bind] at h
    obtain ⟨u, hu, h⟩ := Option.bind_eq_some_iff.1 h
    obtain ⟨us, h1, h2⟩ := Option.bind_eq_some_iff.1 h
    simp at h2
    subst h2
    cases i with
    | zero => simp at hx; subst hx; exact ⟨u, by simp, hu⟩
    | succ i =>
      simp at hx
      obtain ⟨y, h3, h4⟩ := mapM_opt_get h1 i x hx
      exact ⟨y, by simpa using h3, h4⟩

def pickA (al : List AOper) (l : List Nat) : List AOper := l.filterMap (al[·]?)

theorem front_ok {env : Env} {pur : Nat → Bool} {al : List AOper} {i : Nat} {ao : AOper} {q : List Nat} (hpur : ∀ f, pur f = true → PurEnv env f) (hi : al[i]? = some ao) {stF : St} : ∀ (p : List Nat) (st : St),
    (∀ j, j ∈ p → ∃ x, al[j]? = some x ∧ swapOK pur x ao = true) → runOps P env (pickA al (p ++ i :: q)) st = some stF →
    ∃ st1, stepA P env none ao st = some st1 ∧ runOps P env (pickA al (p ++ q)) st1 = some stF
  | [], st, _, h => by
    simp only [pickA, List.nil_append, List.filterMap_cons, hi, runOps] at h ⊢
    exact Option.bind_eq_some_iff.1 h
  | j :: p, st, hp, h => by
    obtain ⟨x, hx, hsw⟩ := hp j (by simp)
    simp only [pickA, List.cons_append, List.filterMap_cons, hx, runOps] at h
    obtain ⟨st1, h1, h2⟩ := Option.bind_eq_some_iff.1 h
    obtain ⟨st2, h3, h4⟩ := front_ok hpur hi p st1 (fun k hk => hp k (by simp [hk])) h2
    obtain ⟨st3, h5, h6⟩ := swap_ok hpur hsw h1 h3
    refine ⟨st3, h5, ?_⟩
    simp only [pickA, List.cons_append, List.filterMap_cons, hx, runOps, h6, Option.bind_some]
    exact h4

theorem rem_set {n i : Nat} {listed : Array Bool} (hs : listed.size = n) (hn : i < n) : remOf n (listed.setIfInBounds i true) = (remOf n listed).filter (· ≠ i) := by
  unfold remOf
  rw [List.filter_filter]
  apply List.filter_congr
  intro k hk
  simp only [Array.getD_eq_getD_getElem?, Array.getElem?_setIfInBounds]
  by_cases e : i = k
  · subst e
    simp [hs, hn]
  · simp [e, Ne.symm e]

theorem rem_split {n i : Nat} {listed : Array Bool} (hs : listed.size = n) (hn : i < n) (hu : listed.getD i true = false) :
    ∃ p q, remOf n listed = p ++ i :: q ∧ remOf n (listed.setIfInBounds i true) = p ++ q ∧ ∀ j, j ∈ p → j < i ∧ listed.getD j true = false := by
  have hm : i ∈ remOf n listed := mem_rem.2 ⟨hn, hu⟩
  obtain ⟨p, q, he⟩ := List.append_of_mem hm
  have hpw : (remOf n listed).Pairwise (· < ·) := List.Pairwise.filter _ List.pairwise_lt_range
  rw [he] at hpw
  obtain ⟨h1, h2, h3⟩ := List.pairwise_append.1 hpw
  have h2' := List.pairwise_cons.1 h2
  refine ⟨p, q, he, ?_, ?_⟩
  · rw [rem_set hs hn, he, List.filter_append, List.filter_cons]
    simp only [ne_eq, not_true_eq_false, decide_false, Bool.false_eq_true, if_false]
    congr 1
    · apply List.filter_eq_self.2
      intro j hj
      have := h3 j hj i (by simp)
      simp; omega
    · apply List.filter_eq_self.2
      intro j hj
      have := h2'.1 j hj
      simp; omega
  · intro j hj
    refine ⟨h3 j hj i (by simp), ?_⟩
    have : j ∈ remOf n listed := by rw [he]; simp [hj]
    exact (mem_rem.1 this).2

theorem draw_ok {env : Env} {pur : Nat → Bool} {ops : Array Oper} {al : List AOper} {md : Region.Mode} (hE : EnvOK P env) (hpur : ∀ f, pur f = true → PurEnv env f) (hd : drawOK pur ops al = true)
    (hc : ops.toList.mapM (compOper P N ops) = some al) (Q : Exit → Act → World → Prop) : ∀ (fuel : Nat) (listed : Array Bool) (st st' : St) (a : Act) (w : World) (G : List Nat), listed.size = ops.size → (remOf ops.size listed).length = fuel →
    (∀ k, listed.getD k false = true → ∀ j, ((masksGo ops.toList []).getD k 0).testBit j = true → listed.getD j false = true) → Sim base X N st a w G →
    runOps P env (pickA al (remOf ops.size listed)) st = some st' →
    (∀ a' w' G', Ext w st.h G w' st'.h G' → Sim base X N st' a' w' G' → a'.defers = a.defers → Q .normal a' w') → wpAny P md ops Q fuel listed a w := by
  have hal : ∀ (i : Nat) (o : Oper), ops[i]? = some o → ∃ ao, al[i]? = some ao ∧ compOper P N ops o = some ao := by
    intro i o ho
    exact mapM_opt_get hc i o (by rw [Array.getElem?_toList]; exact ho)
  have hat : ∀ (i : Nat) (o : Oper), ops[i]? = some o → (masksGo ops.toList []).getD i 0 = maskOf (masksGo ops.toList []) o ∧ (∀ e, e ∈ o.after.toList → e.on < i) ∧ ∀ j, j < i → drawPair pur (masksGo ops.toList []) al i j = true := by
    intro i o ho
    have hlt := (Array.getElem?_eq_some_iff.1 ho).1
    unfold drawOK at hd
    have := List.all_eq_true.1 hd i (by simpa using hlt)
    simp only [ho, Bool.and_eq_true, beq_iff_eq] at this
    obtain ⟨⟨h1, h2⟩, h3⟩ := this
    exact ⟨h1, fun e he => by simpa using List.all_eq_true.1 h2 e he, fun j hj => List.all_eq_true.1 h3 j (by simpa using hj)⟩
  intro fuel
  induction fuel with
  | zero =>
    intro listed st st' a w G hsz hlen hcl hS hr hn
    have h0 : remOf ops.size listed = [] := List.eq_nil_of_length_eq_zero hlen
    rw [h0] at hr
    simp [pickA, runOps] at hr
    subst hr
    refine ⟨?_, hn a w G (Ext.refl _ _ _) hS rfl⟩
    apply List.eq_nil_iff_forall_not_mem.2
    intro i hi
    obtain ⟨h2, o, h1, _⟩ := mem_ready.1 hi
    have : i ∈ remOf ops.size listed := mem_rem.2 ⟨(Array.getElem?_eq_some_iff.1 h1).1, h2⟩
    rw [h0] at this
    simp at this
  | succ fuel ih =>
    intro listed st st' a w G hsz hlen hcl hS hr hn
    refine ⟨?_, ?_⟩
    · -- the first of those to come is ready
      intro h0
      exfalso
      match hrem : remOf ops.size listed with
      | [] => rw [hrem] at hlen; simp at hlen
      | i :: q =>
        have hm : i ∈ remOf ops.size listed := by rw [hrem]; simp
        obtain ⟨m1, m2⟩ := mem_rem.1 hm
        have hpw : (remOf ops.size listed).Pairwise (· < ·) := List.Pairwise.filter _ List.pairwise_lt_range
        rw [hrem] at hpw
        have hp1 := (List.pairwise_cons.1 hpw).1
        have : i ∈ Region.ready md ops listed := by
          have ho : ops[i]? = some ops[i] := by simp [m1]
          refine mem_ready.2 ⟨m2, ops[i], ho, ?_⟩
          intro e he hbd
          have hlt := (hat i _ ho).2.1 e (by simpa using he)
          have hnr : e.on ∉ remOf ops.size listed := by
            rw [hrem]
            intro hm
            rcases List.mem_cons.1 hm with h | h
            · omega
            · have := hp1 _ h; omega
          have hlt2 : e.on < listed.size := by omega
          have : listed.getD e.on true = true := by
            cases hh : listed.getD e.on true with
            | true => rfl
            | false => exact absurd (mem_rem.2 ⟨by omega, hh⟩) hnr
          simpa [Array.getD_eq_getD_getElem?, hlt2] using this
        rw [h0] at this
        simp at this
    · intro i hi
      obtain ⟨m2, o, ho, m3⟩ := mem_ready.1 hi
      have m1 : i < ops.size := (Array.getElem?_eq_some_iff.1 ho).1
      obtain ⟨ao, ha1, ha2⟩ := hal i _ ho
      obtain ⟨q1, q2, q3⟩ := hat i _ ho
      obtain ⟨p, q, s1, s2, s3⟩ := rem_split hsz m1 m2
      -- whatever must come before i has come
      have hbef : ∀ j, ((masksGo ops.toList []).getD i 0).testBit j = true → listed.getD j false = true := by
        intro j hj
        rw [q1] at hj
        rcases mask_bits _ _ hj with h | ⟨e, e1, e2, e3⟩
        · simp at h
        · have hl : listed.getD e.on false = true := m3 e (by simpa using e1) (binds_any e2)
          rcases e3 with e3 | e3
          · rw [← e3]; exact hl
          · exact hcl _ hl j e3
      have hsw : ∀ j, j ∈ p → ∃ x, al[j]? = some x ∧ swapOK pur x ao = true := by
        intro j hj
        obtain ⟨j1, j2⟩ := s3 j hj
        have := q3 j j1
        unfold drawPair at this
        rcases Bool.or_eq_true _ _ ▸ this with h | h
        · have := hbef j h
          have hlt : j < listed.size := by omega
          simp [Array.getD_eq_getD_getElem?, hlt] at this j2
          rw [this] at j2
          cases j2
        · rw [ha1] at h
          cases hx : al[j]? with
          | none => rw [hx] at h; simp at h
          | some x => rw [hx] at h; exact ⟨x, rfl, h⟩
      rw [s1] at hr
      obtain ⟨st1, t1, t2⟩ := front_ok hpur ha1 p st hsw hr
      refine stepA_wp hE hS ho ha2 t1 Q ?_
      intro a1 w1 G1 hE1 hS1 hd1
      refine ih (listed.setIfInBounds i true) st1 st' a1 w1 G1 (by simpa using hsz) ?_ ?_ hS1 (by rw [s2]; exact t2) ?_
      · rw [s2]; rw [s1] at hlen; simp at hlen ⊢; omega
      · intro k hk j hj
        by_cases e : i = k
        · subst e
          exact getD_set_true (hbef j hj)
        · rw [getD_set_ne _ e] at hk
          exact getD_set_true (hcl k hk j hj)
      · intro a2 w2 G2 hE2 hS2 hd2
        exact hn a2 w2 G2 (hE1.trans hE2) hS2 (hd2.trans hd1)

theorem rem_all (n : Nat) : remOf n (Array.replicate n false) = List.range n := by
  unfold remOf
  apply List.filter_eq_self.2
  intro i hi
  have : i < n := by simpa using hi
  simp [Array.getD_eq_getD_getElem?, this]

theorem pick_all (al : List AOper) : pickA al (List.range al.length) = al := by
  unfold pickA
  have : (List.range al.length).map (fun i => al[i]?) = al.map some := by
    apply List.ext_getElem
    · simp
    · intro i h1 h2
      simp at h1 h2 ⊢
  have h2 : (List.range al.length).filterMap (al[·]?) = ((List.range al.length).map (fun i => al[i]?)).filterMap id := by
    rw [List.filterMap_map]; rfl
  rw [h2, this, List.filterMap_map]
  simp [Function.comp_def]

/-- What is owed of a piece of code. -/
def CodeOK (P : Program) (base : Nat) (X : Nat → Prop) (N : Nat) (c : Code) (st : St) (ex : AExit) (st' : St) : Prop :=
  ∀ (a : Act) (w : World) (G : List Nat) (Q : Exit → Act → World → Prop), Sim base X N st a w G →
    (∀ a' w' G', Ext w st.h G w' st'.h G' → Sim base X N st' a' w' G' → a'.defers = a.defers → Q ex.to a' w') → c.wp P Q a w

theorem loop_ok {c : Code} {f : St → Option (AExit × St)} (hf : ∀ st ex st', f st = some (ex, st') → CodeOK P base X N c st ex st') : ∀ (n : Nat) (st : St) (ex : AExit) (st' : St), iterN f n st = some (ex, st') → CodeOK P base X N (.loop c) st ex st' := by
  intro n st ex st' hn a w G Q hS hq b k cs
  have key : ∀ (n : Nat) (st : St) (a : Act) (w : World) (G : List Nat), iterN f n st = some (ex, st') → Sim base X N st a w G →
      (∀ a' w' G', Ext w st.h G w' st'.h G' → Sim base X N st' a' w' G' → a'.defers = a.defers → Q ex.to a' w') →
      ∃ e a' w', Q e a' w' ∧ Arrives P (lone (b.at a (.code c :: .inLoop c :: k)) cs w) b k cs e a' w' := by
    intro n
    induction n with
    | zero => intro st a w G h; simp [iterN] at h
    | succ n ih =>
      intro st a w G h hS hq
      rw [iterN] at h
      obtain ⟨⟨e1, st1⟩, h1, h2⟩ := Option.bind_eq_some_iff.1 h
      have hbody := hf st e1 st1 h1 a w G (fun e a' w' => e = e1.to ∧ ∃ G', Ext w st.h G w' st1.h G' ∧ Sim base X N st1 a' w' G' ∧ a'.defers = a.defers) hS (fun a' w' G' hE hS' hd => ⟨rfl, G', hE, hS', hd⟩) b (.inLoop c :: k) cs
      obtain ⟨e, a1, w1, ⟨rfl, G1, hE1, hS1, hd1⟩, harr⟩ := hbody
      cases e1 with
      | normal =>
        simp only at h2
        obtain ⟨e2, a2, w2, hq2, harr2⟩ := ih st1 a1 w1 G1 h2 hS1 (fun a' w' G' hE hS' hd => hq a' w' G' (hE1.trans hE) hS' (hd.trans hd1))
        exact ⟨e2, a2, w2, hq2, .of_steps (Steps.trans harr (.one step_inLoop)) harr2⟩
      | exit id =>
        simp only [Option.some.injEq, Prod.mk.injEq] at h2
        obtain ⟨rfl, rfl⟩ := h2
        exact ⟨_, a1, w1, hq a1 w1 G1 hE1 hS1 hd1, .pass (x := .inLoop c) rfl (fun _ _ => .inl (by simp [AExit.to])) harr⟩
      | ret =>
        simp only [Option.some.injEq, Prod.mk.injEq] at h2
        obtain ⟨rfl, rfl⟩ := h2
        exact ⟨_, a1, w1, hq a1 w1 G1 hE1 hS1 hd1, .pass (x := .inLoop c) rfl (fun _ _ => .inl (by simp [AExit.to])) harr⟩
  obtain ⟨e, a', w', hq', harr⟩ := key n st a w G hn hS hq
  exact ⟨e, a', w', hq', .of_steps (.one step_loop) harr⟩

theorem exec_ok {env : Env} {pur : Nat → Bool} (hE : EnvOK P env) (hpur : ∀ f, pur f = true → PurEnv env f) : ∀ (c : Code) (ac : ACode) (st : St) (ex : AExit) (st' : St), compile P pur N c = some ac → exec P env ac st = some (ex, st') → CodeOK P base X N c st ex st' := by
  intro c
  induction c with
  | skip =>
    intro ac st ex st' hc he a w G Q hS hq
    simp [compile] at hc; subst hc
    simp [exec] at he
    obtain ⟨rfl, rfl⟩ := he
    exact wp_skip (hq a w G (Ext.refl _ _ _) hS rfl)
  | region id ops draw =>
    intro ac st ex st' hc he a w G Q hS hq
    simp only [compile] at hc
    obtain ⟨al, h1, hc⟩ := Option.bind_eq_some_iff.1 hc
    split at hc
    · rename_i hdr
      cases hc
      simp only [exec] at he
      obtain ⟨st1, h2, h3⟩ := Option.map_eq_some_iff.1 he
      simp only [Prod.mk.injEq] at h3
      obtain ⟨rfl, rfl⟩ := h3
      cases draw with
      | false =>
        refine wp_region (runOps_ok hE Q _ al st st1 a w G hS ?_ h2 hq)
        rw [mapM_range (compOper P N ops) ops]
        exact h1
      | true =>
        have hdk : drawOK pur ops al = true := by simpa using hdr
        refine wp_region_draw fun tt => ?_
        have hw : Ext w st.h G { w with drawn := w.drawn + 1 } st.h G := Ext.quiet hS.heap rfl rfl rfl (Nat.le_refl _) (fun _ _ => rfl)
        have hS' : Sim base X N st a { w with drawn := w.drawn + 1 } G := ⟨hS.heap.quiet hw (fun _ _ => rfl), hS.tmps.ext hw, hS.size⟩
        have hall : ∀ (md : Region.Mode) (tt : Nat), wpOps P ops Q (Region.linearise md ops tt) a { w with drawn := w.drawn + 1 } := by
          intro md tt
          refine wpAny_sound ops.size tt _ a _ ?_
          refine draw_ok (md := md) hE hpur hdk h1 Q ops.size _ st st1 a _ G (by simp) (by rw [rem_all]; simp) ?_ hS' ?_ (fun a' w' G' e1 e2 e3 => hq a' w' G' (hw.trans e1) e2 e3)
          · intro k hk
            by_cases hlt : k < ops.size
            · simp [Array.getD_eq_getD_getElem?, hlt] at hk
            · simp [Array.getD_eq_getD_getElem?, hlt] at hk
          · rw [rem_all, show ops.size = al.length by rw [mapM_opt_length h1]; simp, pick_all]
            exact h2
        unfold Region.schedule
        split
        · exact hall _ _
        · exact hall _ _
    · cases hc
  | seq x y ihx ihy =>
    intro ac st ex st' hc he a w G Q hS hq
    simp only [compile] at hc
    obtain ⟨ax, h1, hc⟩ := Option.bind_eq_some_iff.1 hc
    obtain ⟨ay, h2, rfl⟩ := Option.map_eq_some_iff.1 hc
    simp only [exec] at he
    obtain ⟨⟨e1, st1⟩, h3, h4⟩ := Option.bind_eq_some_iff.1 he
    refine wp_seq (ihx ax st e1 st1 h1 h3 a w G _ hS ?_)
    intro a1 w1 G1 hE1 hS1 hd1
    cases e1 with
    | normal =>
      simp only at h4
      refine ihy ay st1 ex st' h2 h4 a1 w1 G1 Q hS1 ?_
      intro a2 w2 G2 hE2 hS2 hd2
      exact hq a2 w2 G2 (hE1.trans hE2) hS2 (hd2.trans hd1)
    | exit id =>
      simp only [Option.some.injEq, Prod.mk.injEq] at h4
      obtain ⟨rfl, rfl⟩ := h4
      exact hq a1 w1 G1 hE1 hS1 hd1
    | ret =>
      simp only [Option.some.injEq, Prod.mk.injEq] at h4
      obtain ⟨rfl, rfl⟩ := h4
      exact hq a1 w1 G1 hE1 hS1 hd1
  | cond cnd x y ihx ihy =>
    intro ac st ex st' hc he a w G Q hS hq
    simp only [compile] at hc
    obtain ⟨ax, h1, hc⟩ := Option.bind_eq_some_iff.1 hc
    obtain ⟨ay, h2, rfl⟩ := Option.map_eq_some_iff.1 hc
    simp only [exec] at he
    split at he
    · rename_i f tt hv
      have hT := ev_ok (h := st.h) hS.tmps cnd
      rw [show (⟨st.t, st.h⟩ : St) = st from rfl, hv] at hT
      have hb : a.eval cnd = .bool tt := by
        generalize a.eval cnd = u at hT
        cases hT with
        | i hi => cases hi; rfl
      refine wp_cond hb ?_
      cases tt with
      | true => exact ihx ax st ex st' h1 he a w G Q hS hq
      | false => exact ihy ay st ex st' h2 he a w G Q hS hq
    · cases he
  | block id c ih =>
    intro ac st ex st' hc he a w G Q hS hq
    simp only [compile] at hc
    obtain ⟨ax, h1, rfl⟩ := Option.map_eq_some_iff.1 hc
    simp only [exec] at he
    obtain ⟨⟨e1, st1⟩, h3, h4⟩ := Option.map_eq_some_iff.1 he
    refine wp_block (ih ax st e1 st1 h1 h3 a w G _ hS ?_)
    intro a1 w1 G1 hE1 hS1 hd1
    cases e1 with
    | normal =>
      simp only [Prod.mk.injEq] at h4
      obtain ⟨rfl, rfl⟩ := h4
      exact hq a1 w1 G1 hE1 hS1 hd1
    | exit id' =>
      simp only at h4
      simp only [AExit.to, Exit.inBlock]
      by_cases e : id' = id
      · rw [if_pos e] at h4 ⊢
        simp only [Prod.mk.injEq] at h4
        obtain ⟨rfl, rfl⟩ := h4
        exact hq a1 w1 G1 hE1 hS1 hd1
      · rw [if_neg e] at h4 ⊢
        simp only [Prod.mk.injEq] at h4
        obtain ⟨rfl, rfl⟩ := h4
        exact hq a1 w1 G1 hE1 hS1 hd1
    | ret =>
      simp only [Prod.mk.injEq] at h4
      obtain ⟨rfl, rfl⟩ := h4
      exact hq a1 w1 G1 hE1 hS1 hd1
  | loop c ih =>
    intro ac st ex st' hc he
    simp only [compile] at hc
    obtain ⟨ax, h1, rfl⟩ := Option.map_eq_some_iff.1 hc
    simp only [exec] at he
    obtain ⟨n, hn⟩ := iterW_n he
    exact loop_ok (fun st ex st' h => ih ax st ex st' h1 h) n st ex st' hn
  | exit id =>
    intro ac st ex st' hc he a w G Q hS hq
    simp [compile] at hc; subst hc
    simp [exec] at he
    obtain ⟨rfl, rfl⟩ := he
    exact wp_exit (hq a w G (Ext.refl _ _ _) hS rfl)
  | ret =>
    intro ac st ex st' hc he a w G Q hS hq
    simp [compile] at hc; subst hc
    simp [exec] at he
    obtain ⟨rfl, rfl⟩ := he
    exact wp_ret (hq a w G (Ext.refl _ _ _) hS rfl)
  | _ => intro ac st ex st' hc; simp [compile] at hc

end
end Go.AM
