/- The abstract machine's step, operation by operation. Definitions, and the first laws. No condition. -/
import Derived.Test.YtogokiglmhnjkaaLabB5
set_option linter.unusedVariables false
set_option linter.unusedSimpArgs false
namespace Go.AM

/-- What calls come to: function, where a result's block may be laid, arguments, heap. -/
abbrev Env := Nat → Option Nat → List V → Heap → Option (V × Heap)

/-- A struct's or an array's value. -/
def isAggV : V → Bool
  | .agg _ | .i (.agg _) => true
  | _ => false

def stepLoad (z : Nat) (ag : Bool) (h : Heap) : V → Option V
  | .ptr b g off => (getCells h b g).bind fun cs => if off + z ≤ cs.length then rowV ag ((cs.drop off).take z) else none
  | .i (.ip cs) => if z ≤ cs.length then rowV ag ((cs.take z).map .i) else none
  | _ => none

def stepStoreC (z : Nat) (h : Heap) (ys : List V) : V → Option Heap
  | .ptr b g off => (getCells h b g).bind fun cs => if ys.all V.one = true ∧ ys.length = z ∧ off + z ≤ cs.length then some (h.set b (.cells (splice cs off ys))) else none
  | _ => none

def stepStore (z : Nat) (h : Heap) (x : V) : V → Option Heap := stepStoreC z h x.cells

def isNil : V → Bool
  | .i (.s (.slice none 0 0)) => true
  | _ => false

theorem isNil_eq {v : V} (h : isNil v = true) : v = .i (.s (.slice none 0 0)) := by
  unfold isNil at h
  split at h
  · rfl
  · cases h

/-- Cells, the nil slices among them as slices of the function's own. -/
def virtV : List (Nat × Bool) → Nat → List V → List V
  | _, _, [] => []
  | hs, b, v :: vs => if isNil v then .hsl b 0 0 (hs.headD (0, false)).1 (hs.headD (0, false)).2 0 :: virtV hs.tail (b + 1) vs else v :: virtV hs.tail b vs

def nilsV : List V → Nat
  | [] => 0
  | v :: vs => if isNil v then nilsV vs + 1 else nilsV vs

def stepIdxS (z : Nat) (h : Heap) (n : Int) : V → Option V
  | .hsl b g off z' _ len => if z' = z ∧ 0 ≤ n ∧ n < len then (getCells h b g).map fun _ => .ptr b g (off + n.toNat * z) else none
  | .i (.sl z' xs) => if z' = z ∧ 0 ≤ n then (xs[n.toNat]?).map fun x => .i (.ip x.cells) else none
  | _ => none

def stepIdxA (z : Nat) (k : Nat) : V → Option V
  | .ptr b g o => some (.ptr b g (o + k * z))
  | .i (.ip cs) => if k * z < cs.length then some (.i (.ip (cs.drop (k * z)))) else none
  | _ => none

def stepField (off : Nat) : V → Option V
  | .ptr b g o => some (.ptr b g (o + off))
  | .i (.ip cs) => if off < cs.length then some (.i (.ip (cs.drop off))) else none
  | _ => none

def stepSlice (z : Nat) (bd : Nat → Option (Nat × Nat)) : V → Option V
  | .hsl b g off z' ag len => (bd len).bind fun p => if z' = z then some (.hsl b g (off + p.1 * z) z ag (p.2 - p.1)) else if z' = 0 ∧ len = 0 ∧ g = 0 ∧ off = 0 then some (.hsl b 0 0 z ag 0) else none
  | .i (.sl z' xs) => (bd xs.length).bind fun p => if z' = z then some (.i (.sl z ((xs.drop p.1).take (p.2 - p.1)))) else none
  | _ => none

def stepSliceA (n z : Nat) (ag : Bool) (bd : Nat → Option (Nat × Nat)) (h : Heap) : V → Option V
  | .ptr b g off => (bd n).bind fun p => (getCells h b g).bind fun cs => if off + n * z ≤ cs.length then some (.hsl b g (off + p.1 * z) z ag (p.2 - p.1)) else none
  | _ => none

/-- append: what is appended is ys, n elements. -/
def stepAppend (slot : Option Nat) (z : Nat) (ag : Bool) (bytes : Nat) (h : Heap) (ys : List V) (n : Nat) : V → Option (V × Heap)
  | .i (.s (.slice none 0 0)) =>
    if n = 0 then some (.i (.s (.slice none 0 0)), h)
    else if n * bytes ≤ 140737488355328 then (newSlot slot h (.cells ys)).map fun p => (.hsl p.1 (n * z) 0 z ag n, p.2)
    else none
  | .hsl b g off z' _ len =>
    if (z' = z ∨ z' = 0) ∧ off = 0 then (getCells h b g).bind fun cs =>
      if n = 0 then some (.hsl b g 0 z ag len, h)
      else if (len + n) * bytes ≤ 140737488355328 then
        if len * z = g then some (.hsl b (g + n * z) 0 z ag (len + n), h.set b (.cells (cs ++ ys)))
        else (newSlot slot (h.set b .dead) (.cells (cs.take (len * z) ++ ys))).map fun p => (.hsl p.1 ((len + n) * z) 0 z ag (len + n), p.2)
      else none
    else none
  | _ => none

def stepExtract (k : Nat) : V → Option V
  | .tup vs => vs[k]?
  | .i (.tup vs) => (vs[k]?).map .i
  | _ => none

def stepNil : V → Option V
  | .ptr b g off => some (.ptr b g off)
  | .i (.ip cs) => some (.i (.ip cs))
  | _ => none

def ivs (vs : List Value) : List V := vs.map fun v => .i (.s v)

def isNilV : Value → Bool
  | .slice none 0 0 => true
  | _ => false

theorem isNilV_eq {z : Value} (h : isNilV z = true) : z = .slice none 0 0 := by
  unfold isNilV at h
  split at h
  · rfl
  · cases h

/-- New cells, the nil slices among them as slices of the function's own. -/
def virtC : List (Nat × Bool) → Nat → List Value → List V
  | _, _, [] => []
  | hs, b, z :: zs => if isNilV z then .hsl b 0 0 (hs.headD (0, false)).1 (hs.headD (0, false)).2 0 :: virtC hs.tail (b + 1) zs else .i (.s z) :: virtC hs.tail b zs

def nilsOf : List Value → Nat
  | [] => 0
  | z :: zs => if isNilV z then nilsOf zs + 1 else nilsOf zs

/-- A key's cells. -/
def keyV (kg : Bool) (x : V) : Option (List Value) := if kg then scalsV x else (scal x).map fun v => [v]

def keyI (kg : Bool) : I → Option (List Value)
  | .agg cs => if kg then cs.mapM scalI else none
  | .s v => if kg then none else some [v]
  | _ => none

/-- A key as it lies in a map. -/
def keyP (kg : Bool) (a : List Value) : I := if kg then .agg (a.map .s) else .s (a.headD undef)

def keysI (kg : Bool) (ks : List SK) (kl : List I) : Option (List (List Value)) := (kl.mapM (keyI kg)).filter fun cs => cs.all (fitsL ks)

def mapAt (h : Heap) : V → Option (Nat × List I × List V)
  | .mp b => match h[b]? with
    | some (.map kl vl) => some (b, kl, vl)
    | _ => none
  | _ => none

def lookV (ag : Bool) (zero : List Value) (vl : List V) : Option Nat → Option V
  | some j => vl[j]?
  | none => rowV ag (ivs zero)

def setM (kg : Bool) (a : List Value) (x : V) (kl : List I) (vl : List V) : Option Nat → Slot
  | some j => .map kl (vl.set j x)
  | none => .map (kl ++ [keyP kg a]) (vl ++ [x])

def delM (kl : List I) (vl : List V) : Option Nat → Slot
  | some j => .map (kl.eraseIdx j) (vl.eraseIdx j)
  | none => .map kl vl

def stepOp (P : Program) (env : Env) (slot : Option Nat) (op : AOp) (st : St) : Option (V × Heap) :=
  match op with
  | .mv x => some (st.ev x, st.h)
  | .pick c a b => match st.ev c with
    | .i (.s (.bool t)) => some (if t then st.ev a else st.ev b, st.h)
    | _ => none
  | .pu p xs => ((xs.map st.ev).mapM toValV).bind fun vs => (pureOf P (p.run vs)).bind fun v => (ofVal v).map fun x => (.i x, st.h)
  | .vnil z ag => (newSlot slot st.h .virt).map fun p => (.hsl p.1 0 0 z ag 0, p.2)
  | .aeq neg ks x y => (scalsV (st.ev x)).bind fun a => (scalsV (st.ev y)).bind fun b => if fitsL ks a = true ∧ fitsL ks b = true then some (.i (.s (.bool (xor neg (eqL a b)))), st.h) else none
  | .allocV hs zero => some (.ptr (st.h.length + nilsOf zero) zero.length 0, st.h ++ List.replicate (nilsOf zero) .virt ++ [.cells (virtC hs st.h.length zero)])
  | .alloc zero => (newSlot slot st.h (.cells (ivs zero))).map fun p => (.ptr p.1 zero.length 0, p.2)
  | .box x => if (st.ev x).cells.all V.one = true then (newSlot slot st.h (.cells (st.ev x).cells)).map fun p => (.ptr p.1 (st.ev x).cells.length 0, p.2) else none
  | .build zero parts => (fillV st (ivs zero) parts).map fun cs => (.agg cs, st.h)
  | .buildSl z ag n zero parts => (fillV st ((List.replicate n (ivs zero)).flatten) (parts.map fun p => (p.1 * z, z, p.2))).bind fun cs =>
      (newSlot slot st.h (.cells cs)).map fun p => (.hsl p.1 cs.length 0 z ag n, p.2)
  | .load z ag a => (stepLoad z ag st.h (st.ev a)).map fun v => (v, st.h)
  | .store z a x => (stepStore z st.h (st.ev x) (st.ev a)).map fun h => (undefV, h)
  | .storeV hs z a x => (stepStoreC z (st.h ++ List.replicate (nilsV (st.ev x).cells) .virt) (virtV hs st.h.length (st.ev x).cells) (st.ev a)).map fun h => (undefV, h)
  | .nilChk x => (stepNil (st.ev x)).map fun v => (v, st.h)
  | .fieldA off x => (stepField off (st.ev x)).map fun v => (v, st.h)
  | .field off z ag x => if off + z ≤ (st.ev x).cells.length ∧ isAggV (st.ev x) = true then (rowV ag (((st.ev x).cells.drop off).take z)).map fun v => (v, st.h) else none
  | .idxS z x i => (intV (st.ev i)).bind fun n => (stepIdxS z st.h n (st.ev x)).map fun v => (v, st.h)
  | .idxA n z x i => (intV (st.ev i)).bind fun k => if 0 ≤ k ∧ k < n then (stepIdxA z k.toNat (st.ev x)).map fun v => (v, st.h) else none
  | .idxV n z ag x i => (intV (st.ev i)).bind fun k =>
      if 0 ≤ k ∧ k < n ∧ (st.ev x).cells.length = n * z ∧ isAggV (st.ev x) = true then (rowV ag (((st.ev x).cells.drop (k.toNat * z)).take z)).map fun v => (v, st.h) else none
  | .slice z x lo hi => (stepSlice z (bounds st lo hi) (st.ev x)).map fun v => (v, st.h)
  | .sliceA n z ag x lo hi => (stepSliceA n z ag (bounds st lo hi) st.h (st.ev x)).map fun v => (v, st.h)
  | .len x => (lenS (st.ev x)).map fun (n : Nat) => (V.i (.s (.int .i64 (n : Int))), st.h)
  | .append z ag bytes s x => (srcCells st.h (st.ev x)).bind fun ys => (lenV (st.ev x)).bind fun n =>
      if ys.all V.one = true ∧ ys.length = n * z then stepAppend slot z ag bytes st.h ys n (st.ev s) else none
  | .extract k x => (stepExtract k (st.ev x)).map fun v => (v, st.h)
  | .b2s x => (srcCells st.h (st.ev x)).bind fun ys => (lenS (st.ev x)).bind fun n => (bytesOf ys).bind fun bs =>
      if bs.length = n then some (.i (.s (.string (strOfNums bs))), st.h) else none
  | .makeSl z ag bytes zero l c => (intV (st.ev l)).bind fun l => (intV (st.ev c)).bind fun c =>
      if 0 ≤ l ∧ l ≤ c ∧ c * bytes ≤ 281474976710656 ∧ c ≤ 9223372036854775807 then
        (newSlot slot st.h (.cells ((List.replicate l.toNat (ivs zero)).flatten))).map fun p => (.hsl p.1 (l.toNat * z) 0 z ag l.toNat, p.2)
      else none
  | .clo f caps => some (.clo f (caps.map st.ev), st.h)
  | .ifc t x => some (.ifc t (st.ev x), st.h)
  | .call f args => env f slot (args.map st.ev) st.h
  | .callV f hs args => env f slot (virtV hs st.h.length (args.map st.ev)) (st.h ++ List.replicate (nilsV (args.map st.ev)) .virt)
  | .appendV z ag bytes x => (srcCells st.h (st.ev x)).bind fun ys => (lenV (st.ev x)).bind fun n =>
      if ys.all V.one = true ∧ ys.length = n * z then stepAppend none z ag bytes (st.h ++ [.virt]) ys n (.hsl st.h.length 0 0 z ag 0) else none
  | .dyn f args => match st.ev f with
    | .clo g caps => env (2 * g) slot (args.map st.ev ++ caps) st.h
    | _ => none
  | .makeMap => (newSlot slot st.h (.map [] [])).map fun p => (.mp p.1, p.2)
  | .lookup kg ks ag zero ok m k => (mapAt st.h (st.ev m)).bind fun q => (keyV kg (st.ev k)).bind fun a => (keysI kg ks q.2.1).bind fun cs => if fitsL ks a = true then
      (lookV ag zero q.2.2 (hit a cs)).map fun v => (if ok then .tup [v, .i (.s (.bool (hit a cs).isSome))] else v, st.h) else none
  | .mapSet kg ks m k x => (mapAt st.h (st.ev m)).bind fun q => (keyV kg (st.ev k)).bind fun a => (keysI kg ks q.2.1).bind fun cs => if fitsL ks a = true then
      some (undefV, st.h.set q.1 (setM kg a (st.ev x) q.2.1 q.2.2 (hit a cs))) else none
  | .del kg ks m k => (mapAt st.h (st.ev m)).bind fun q => (keyV kg (st.ev k)).bind fun a => (keysI kg ks q.2.1).bind fun cs => if fitsL ks a = true then
      some (undefV, st.h.set q.1 (delM q.2.1 q.2.2 (hit a cs))) else none
  | .mlen m => (mapAt st.h (st.ev m)).map fun q => (.i (.s (.int .i64 (q.2.2.length : Nat))), st.h)

/-- The temporaries of the abstract machine against the model's. -/
def TV (w : World) (base : Nat) (M : Nat → Prop) (H : Heap) (G : List Nat) (t : Nat → V) (tmps : Array Value) : Prop := ∀ k, RV w base M H G (t k) (tmps.getD k undef)

section
variable {w : World} {base : Nat} {M : Nat → Prop} {H : Heap} {G : List Nat}

theorem RL.of_plain : ∀ (vs : List Value), vs.all plain = true → RL w M (vs.map .s) vs
  | [], _ => .nil
  | v :: vs, h => by
    simp at h
    exact .cons (.s h.1) (RL.of_plain vs (by simpa using h.2))

theorem ofVal_ok {v : Value} {x : I} (h : ofVal v = some x) : RI w M x v := by
  unfold ofVal at h
  split at h
  · split at h
    · rename_i hp; cases h; exact .agg (RL.of_plain _ hp)
    · cases h
  · split at h
    · rename_i hp; cases h; exact .tup (RL.of_plain _ hp)
    · cases h
  · split at h
    · rename_i hp; cases h; exact .s hp
    · cases h

theorem RL.scal : ∀ {cs : List I} {vs l : List Value}, RL w M cs vs → cs.mapM scalI = some l → vs = l
  | _, _, _, .nil, h => by simp at h; exact h.symm
  | _, _, _, .cons (x := x) a b, h => by
    simp only [List.mapM_cons, Option.bind_eq_bind] at h
    cases hx : scalI x with
    | none => rw [hx] at h; simp at h
    | some u =>
      rw [hx] at h
      simp only [Option.bind_some] at h
      obtain ⟨l', h1, h2⟩ := Option.bind_eq_some_iff.1 h
      simp at h2
      subst h2
      have e := RL.scal b h1
      cases x with
      | s y =>
        simp [scalI] at hx; subst hx
        cases a
        rw [e]
      | _ => simp [scalI] at hx

theorem toVal_ok {x : I} {v v' : Value} (h : RI w M x v) (e : toVal x = some v') : v = v' := by
  cases h with
  | s hp => simp [toVal] at e; exact e
  | agg hl =>
    simp only [toVal, Option.map_eq_some_iff] at e
    obtain ⟨l, h1, h2⟩ := e
    rw [← h2, ← hl.scal h1]
  | tup hl =>
    simp only [toVal, Option.map_eq_some_iff] at e
    obtain ⟨l, h1, h2⟩ := e
    rw [← h2, ← hl.scal h1]
  | _ => simp [toVal] at e

theorem RVL.scal : ∀ {cs : List V} {vs l : List Value}, RVL w base M H G cs vs → cs.mapM AM.scal = some l → vs = l
  | _, _, _, .nil, h => by simp at h; exact h.symm
  | _, _, _, .cons (x := x) a b, h => by
    simp only [List.mapM_cons, Option.bind_eq_bind] at h
    cases hx : AM.scal x with
    | none => rw [hx] at h; simp at h
    | some u =>
      rw [hx] at h
      simp only [Option.bind_some] at h
      obtain ⟨l', h1, h2⟩ := Option.bind_eq_some_iff.1 h
      simp at h2
      subst h2
      have e := RVL.scal b h1
      unfold AM.scal at hx
      split at hx
      · cases hx
        cases a with
        | i hi =>
          cases hi
          rw [e]
      · cases hx

theorem toValV_ok {x : V} {v v' : Value} (h : RV w base M H G x v) (e : toValV x = some v') : v = v' := by
  cases h with
  | i hi => exact toVal_ok hi e
  | agg hl =>
    simp only [toValV, Option.map_eq_some_iff] at e
    obtain ⟨l, h1, h2⟩ := e
    rw [← h2, ← hl.scal h1]
  | _ => simp [toValV] at e

theorem RVL.toVal : ∀ {xs : List V} {vs l : List Value}, RVL w base M H G xs vs → xs.mapM toValV = some l → vs = l
  | _, _, _, .nil, h => by simp at h; exact h.symm
  | _, _, _, .cons (x := x) a b, h => by
    simp only [List.mapM_cons, Option.bind_eq_bind] at h
    obtain ⟨u, hu, h⟩ := Option.bind_eq_some_iff.1 h
    obtain ⟨l', h1, h2⟩ := Option.bind_eq_some_iff.1 h
    simp at h2
    subst h2
    rw [RVL.toVal b h1, toValV_ok a hu]

theorem ev_ok {t : Nat → V} {h : Heap} {a : Act} (hT : TV w base M H G t a.tmps) (o : Operand) : RV w base M H G (St.ev ⟨t, h⟩ o) (a.eval o) := by
  cases o with
  | tmp k => exact hT k
  | const v =>
    simp only [St.ev, Act.eval]
    split
    · rename_i x hx; exact .i (ofVal_ok hx)
    · exact .bad
  | global g => exact .bad
  | func f => exact .clo .nil

theorem evs_ok {t : Nat → V} {h : Heap} {a : Act} (hT : TV w base M H G t a.tmps) : ∀ (os : List Operand), RVL w base M H G (os.map (St.ev ⟨t, h⟩)) (os.map a.eval)
  | [] => .nil
  | o :: os => .cons (ev_ok hT o) (evs_ok hT os)

theorem RV.undef : RV w base M H G undefV undef := .i (.tup .nil)

theorem intV_ok {x : V} {v : Value} {n : Int} (h : RV w base M H G x v) (e : intV x = some n) : ∃ k, v = .int k n := by
  unfold intV at e
  split at e
  · cases e
    cases h with
    | i hi => cases hi; exact ⟨_, rfl⟩
  · cases e

end

end Go.AM
