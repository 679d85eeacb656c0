/- From the model's operations to the abstract machine's, and the laws of those that make no block. No condition. -/
import Derived.Test.YtogokiglmhnjkaaLabB6
set_option linter.unusedVariables false
set_option linter.unusedSimpArgs false
namespace Go.AM

def szOf (P : Program) (t : TypeId) : Option Nat := (P.info? t).map (·.size)
def byOf (P : Program) (t : TypeId) : Option Nat := (P.info? t).map (·.bytes)
def agOf (P : Program) (t : TypeId) : Option Bool :=
  match P.underlying t with
  | some (.struct _) | some (.array _ _) => some true
  | some _ => some false
  | none => none
def zeroOf (P : Program) (t : TypeId) : Option (List Value) :=
  (((P.info? t).bind (·.zero)).map (·.cells.toList)).filter fun l => l.all plain

def shapeFs (P : Program) (g : TypeId → Option (List SK)) : List Field → Nat → Option (List SK)
  | [], _ => some []
  | f :: fs, off => if f.name ≠ "_" ∧ f.offset = off then (g f.type).bind fun ks => if szOf P f.type = some ks.length then (shapeFs P g fs (off + ks.length)).map (ks ++ ·) else none else none

/-- The kinds of the cells of a value of this type. -/
def shapeAt (P : Program) : Nat → TypeId → Option (List SK)
  | 0, _ => none
  | d + 1, t => match P.underlying t with
    | some (.int k) => some [.int k]
    | some .bool => some [.bool]
    | some .string => some [.str]
    | some (.array n e) => (shapeAt P d e).bind fun ks => if szOf P e = some ks.length then some ((List.replicate n ks).flatten) else none
    | some (.struct fs) => if P.stoodInHeld t then none else shapeFs P (shapeAt P d) fs.toList 0
    | _ => none

/-- Whether values of the type can be told apart by their cells. -/
def eqShape (P : Program) (t : TypeId) : Option (List SK) :=
  match agOf P t with
  | some true => if P.eqGuardType P.depth t then none else shapeAt P 8 t
  | _ => none

def isU8 (P : Program) (e : TypeId) : Bool := match P.underlying e with | some (.int .u8) => true | _ => false
def isInt (P : Program) (e : TypeId) : Bool := match P.underlying e with | some (.int _) => true | _ => false
def isIface (P : Program) (e : TypeId) : Bool := match P.underlying e with | some (.interface _) => true | none => true | _ => false

/-- Types whose values are one whole number, bool or string. -/
def basicT (P : Program) (t : TypeId) : Bool := match P.underlying t with
  | some (.int _) | some .bool | some .string => true
  | _ => false

/-- Types of keys that the machine can tell apart. -/
def keyT (P : Program) (t : TypeId) : Bool := match P.underlying t with
  | some (.int _) | some .bool | some .string => true
  | some (.struct fs) => fs.toList.all fun f => basicT P f.type
  | _ => false

/-- A type's zero value: whether it is one of many cells, and these. -/
def zeroV (P : Program) (t : TypeId) : Option (Bool × List Value) := ((P.info? t).bind (·.zero)).bind fun v => match v with
  | .agg cs => if cs.toList.all plain then some (true, cs.toList) else none
  | v => if plain v then some (false, [v]) else none

/-- What is to be known of a map's keys. -/
def keyOf (P : Program) (t : TypeId) : Option (Bool × List SK) := if keyT P t = true then (shapeAt P 8 t).bind fun ks => (agOf P t).map fun kg => (kg, ks) else none

def callable (P : Program) (f : FuncId) : Bool :=
  match P.funcs[f]? with
  | some fn => fn.body.isSome && !(fn.name == "runtime.NumGoroutine")
  | none => false

def compCall (P : Program) (o : Oper) (c : Call) : Option AOp :=
  match c.callee with
  | .builtin b =>
    match b, c.args.toList, c.argTypes.toList with
    | .append, [s, x], [t1, t2] =>
      match P.underlying t1 with
      | some (.slice e) => (szOf P e).bind fun z => (agOf P e).bind fun ag => (byOf P e).bind fun y =>
        if isInt P t2 = false ∧ (P.underlying t2).isSome ∧ 0 < y ∧ 0 < z ∧ (zeroOf P e).map List.length = some z then some (.append z ag y s x) else none
      | _ => none
    | .len, [x], [t] =>
      match P.underlying t with
      | some .string => some (.pu (.len c.argTypes o.type) [x])
      | some (.slice _) => some (.len x)
      | some (.map _ _) => some (.mlen x)
      | _ => none
    | .max, xs, _ => some (.pu (.max c.argTypes o.type) xs)
    | .min, xs, _ => some (.pu (.min c.argTypes o.type) xs)
    | .delete, [m, k], [mt, _] =>
      match P.underlying mt with
      | some (.map kt _) => (keyOf P kt).map fun q => .del q.1 q.2 m k
      | _ => none
    | _, _, _ => none
  | .value (.func f) => if callable P f then some (.call (2 * f) c.args.toList) else none
  | .value g => some (.dyn g c.args.toList)
  | .invoke _ _ => none

def compOp (P : Program) (o : Oper) : Option AOp :=
  match o.op with
  | .move x | .assign x => some (.mv x)
  | .pick c a b => some (.pick c a b)
  | .alloc e => (zeroOf P e).map .alloc
  | .box _ x => some (.box x)
  | .build t parts =>
    match P.underlying t with
    | some (.struct fields) => (zeroOf P t).bind fun z => (fields.toList.mapM fun f => (szOf P f.type).map fun s => (f.offset, s)).bind fun fs =>
      if parts.toList.all (fun p => (fs[p.1]?).isSome) then some (.build z (parts.toList.map fun p => match fs[p.1]? with | some q => (q.1, q.2, p.2) | none => (0, 0, p.2))) else none
    | some (.array _ e) => (zeroOf P t).bind fun z => (szOf P e).map fun s => .build z (parts.toList.map fun p => (p.1 * s, s, p.2))
    | _ => none
  | .buildSlice t n parts =>
    match P.underlying t with
    | some (.slice e) => (szOf P e).bind fun z => (agOf P e).bind fun ag => (zeroOf P e).bind fun zero =>
      if n * z ≤ 16777216 ∧ zero.length = z ∧ 0 < z then some (.buildSl z ag n zero parts.toList) else none
    | _ => none
  | .load t a => (szOf P t).bind fun z => (agOf P t).map fun ag => .load (if ag then z else 1) ag a
  | .store t a x => (szOf P t).map fun z => .store z a x
  | .nilCheck x => some (.nilChk x)
  | .binOp op t x y _ => match eqShape P t, op with
    | some ks, .eql => some (.aeq false ks x y)
    | some ks, .neq => some (.aeq true ks x y)
    | none, _ => some (.pu (.bin op t x y) [x, y])
    | _, _ => none
  | .unOp op _ x => some (.pu (.un op) [x])
  | .convert s d x =>
    match P.underlying s, P.underlying d with
    | some (.slice e), some .string => if isU8 P e then some (.b2s x) else none
    | _, _ => some (.pu (.conv s d) [x])
  | .slice t x lo hi none =>
    match P.underlying t with
    | some .string => some (.pu (.slS t lo.isSome hi.isSome) (x :: (lo.toList ++ hi.toList)))
    | some (.slice e) => (szOf P e).map fun z => .slice z x lo hi
    | some (.array n e) => (szOf P e).bind fun z => (agOf P e).bind fun ag => if 0 < z then some (.sliceA n z ag x lo hi) else none
    | _ => none
  | .fieldAddr s x f =>
    match P.underlying s with
    | some (.struct fields) => (fields[f]?).bind fun fd => (szOf P fd.type).bind fun z => if z = 0 then none else some (.fieldA fd.offset x)
    | _ => none
  | .field t x f =>
    match P.underlying t with
    | some (.struct fields) => (fields[f]?).bind fun fd => (szOf P fd.type).bind fun z => (agOf P fd.type).map fun ag => .field fd.offset (if ag then z else 1) ag x
    | _ => none
  | .indexAddr t x i =>
    match P.underlying t with
    | some (.slice e) => (szOf P e).map fun z => .idxS z x i
    | some (.array n e) => (szOf P e).map fun z => .idxA n z x i
    | _ => none
  | .index t x i =>
    match P.underlying t with
    | some (.array n e) => (szOf P e).bind fun z => (agOf P e).bind fun ag => if ag = true ∨ z = 1 then some (.idxV n z ag x i) else none
    | some .string => some (.pu (.idx t) [x, i])
    | _ => none
  | .extract x k => some (.extract k x)
  | .makeSlice t l c =>
    match P.underlying t with
    | some (.slice e) => (szOf P e).bind fun z => (agOf P e).bind fun ag => (zeroOf P e).bind fun zero => (byOf P e).bind fun y =>
      if zero.length = z ∧ 0 < z ∧ 0 < y then some (.makeSl z ag y zero l c) else none
    | _ => none
  | .makeFunc (.func f) first captured => if first.isEmpty then some (.clo f captured.toList) else none
  | .makeInterface t x => if isIface P t then none else some (.ifc t x)
  | .call c => compCall P o c
  | .makeMap _ none => some .makeMap
  | .lookup mt m k ok =>
    match P.underlying mt with
    | some (.map kt e) => (keyOf P kt).bind fun q => (zeroV P e).map fun z => .lookup q.1 q.2 z.1 z.2 ok m k
    | _ => none
  | .mapUpdate mt m k x | .insert mt m k x =>
    match P.underlying mt with
    | some (.map kt _) => (keyOf P kt).map fun q => .mapSet q.1 q.2 m k x
    | _ => none
  | _ => none

section
variable {P : Program}

theorem run_szOf {t : TypeId} {z : Nat} (h : szOf P t = some z) (w : World) : (sizeOf t).run P w = .ok z w := by
  unfold szOf at h
  obtain ⟨i, h1, h2⟩ := Option.map_eq_some_iff.1 h
  simp [sizeOf, typeInfo, h1, h2]

theorem run_agOf {t : TypeId} {b : Bool} (h : agOf P t = some b) (w : World) : (isAgg t).run P w = .ok b w := by
  unfold agOf at h
  unfold isAgg
  simp only [Sem.run_bind]
  split at h
  all_goals (try cases h)
  · rename_i hu; rw [run_underlying hu]; rfl
  · rename_i hu; rw [run_underlying hu]; rfl
  · rename_i d h1 h2 hu
    rw [run_underlying hu]
    simp only [Result.andThen_ok]
    rfl

theorem zeroOf_ok {t : TypeId} {zs : List Value} (h : zeroOf P t = some zs) : zs.all plain = true ∧ ∃ v, v.cells.toList = zs ∧ ∀ w, (zeroValue t).run P w = .ok v w := by
  unfold zeroOf at h
  obtain ⟨h1, h2⟩ := Option.filter_eq_some_iff.1 h
  obtain ⟨v, h3, h4⟩ := Option.map_eq_some_iff.1 h1
  obtain ⟨i, h5, h6⟩ := Option.bind_eq_some_iff.1 h3
  refine ⟨h2, v, h4, fun w => ?_⟩
  simp [zeroValue, typeInfo, h5, h6]

theorem run_loadVar {t : TypeId} {z : Nat} {ag : Bool} (hz : szOf P t = some z) (ha : agOf P t = some ag) (w : World) (a : Addr) (cs : List Value) (hl : cs.length = if ag then z else 1) (hr : Reads w a cs) :
    (loadVar t a).run P w = .ok (if ag then .agg cs.toArray else cs.getD 0 undef) w := by
  unfold loadVar
  simp only [Sem.run_bind, run_agOf ha, Result.andThen_ok]
  cases ag with
  | true =>
    simp only [if_true, Sem.run_bind, run_szOf hz, Result.andThen_ok]
    rw [run_loadCells P w a cs z (by simpa using hl) hr]
    rfl
  | false =>
    simp only [Bool.false_eq_true, if_false]
    simp at hl
    have h0 := hr 0 (by omega)
    rw [Addr.add_zero'] at h0
    rw [run_load, h0]
    simp [List.getD_eq_getElem?_getD, List.getElem?_eq_getElem (show 0 < cs.length by omega)]

end
end Go.AM
