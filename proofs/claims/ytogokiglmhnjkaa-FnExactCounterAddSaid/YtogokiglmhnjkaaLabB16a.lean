/- Whole function bodies on the abstract machine, and that the model does what it says. No condition. -/
import Derived.Test.YtogokiglmhnjkaaLabB15
import Derived.Test.YtogokiglmhnjkaaLabB7n
set_option linter.unusedVariables false
set_option linter.unusedSimpArgs false
namespace Go.AM

inductive ACode where
  | skip
  | ops (l : List AOper)
  | opsR (n : Nat) (l : List AOper)
  | seq (a b : ACode)
  | cond (c : Operand) (x y : ACode)
  | block (id : Nat) (c : ACode)
  | loop (c : ACode)
  | exit (id : Nat)
  | ret

inductive AExit where
  | normal
  | exit (id : Nat)
  | ret

def AExit.to : AExit → Exit
  | .normal => .normal
  | .exit id => .exit id
  | .ret => .ret

def put (t : Nat → V) (dst : Option Nat) (v : V) : Nat → V :=
  match dst with
  | some d => fun k => if k = d then v else t k
  | none => t

def wantedA (o : AOper) (t : Nat → V) : Option Bool :=
  match o.guard with
  | none => some true
  | some (d, want) => match t d with
    | .i (.s (.bool b)) => some (b == want)
    | .i (.tup []) => some false
    | _ => none

/-- The block that is kept free for what an operation makes. -/
def slotOf (bs : Option Nat) (o : AOper) : Option (Option Nat) :=
  match o.slot with
  | none => some none
  | some k => bs.map fun b => some (b + k)

/-- What an operation yields, guard and all. -/
def outA (P : Program) (env : Env) (bs : Option Nat) (o : AOper) (t : Nat → V) (h : Heap) : Option (V × Heap) :=
  (wantedA o t).bind fun b => if b then (slotOf bs o).bind fun slot => stepOp P env slot o.op ⟨t, h⟩ else some (undefV, h)

/-- What a value refers to has not turned. -/
def kept (h h' : Heap) : V → Prop
  | .ptr b _ _ => h'[b]? = h[b]?
  | .hsl b _ _ _ _ _ => h'[b]? = h[b]?
  | .i _ => True
  | _ => False

theorem kept_refl {h h' h2 : Heap} {v : V} (hk : kept h h' v) : kept h2 h2 v := by
  cases v <;> first | trivial | exact hk.elim | rfl

open Classical in
noncomputable def stepA (P : Program) (env : Env) (slot : Option Nat) (o : AOper) (st : St) : Option St :=
  (outA P env slot o st.t st.h).bind fun p => if ∀ x, x ∈ o.apart → kept st.h p.2 (st.ev x) then some ⟨put st.t o.dst p.1, p.2⟩ else none

def AOper.clear (o : AOper) : AOper := { o with apart := [] }

theorem stepA_some {P : Program} {env : Env} {slot : Option Nat} {o : AOper} {st st' : St} : stepA P env slot o st = some st' ↔
    ∃ p, outA P env slot o st.t st.h = some p ∧ (∀ x, x ∈ o.apart → kept st.h p.2 (st.ev x)) ∧ st' = ⟨put st.t o.dst p.1, p.2⟩ := by
  unfold stepA
  rw [Option.bind_eq_some_iff]
  constructor
  · rintro ⟨p, h1, h2⟩
    split at h2
    · rename_i hc; cases h2; exact ⟨p, h1, hc, rfl⟩
    · cases h2
  · rintro ⟨p, h1, hc, rfl⟩
    exact ⟨p, h1, by rw [if_pos hc]⟩

theorem outA_clear {P : Program} {env : Env} {slot : Option Nat} {o : AOper} {t : Nat → V} {h : Heap} : outA P env slot o.clear t h = outA P env slot o t h := rfl

theorem stepA_clear {P : Program} {env : Env} {slot : Option Nat} {o : AOper} {st st' : St} (h : stepA P env slot o st = some st') : stepA P env slot o.clear st = some st' := by
  obtain ⟨p, h1, h2, h3⟩ := stepA_some.1 h
  exact stepA_some.2 ⟨p, h1, by simp [AOper.clear], h3⟩

noncomputable def runOps (P : Program) (env : Env) (bs : Option Nat) : List AOper → St → Option St
  | [], st => some st
  | o :: l, st => (stepA P env bs o st).bind (runOps P env bs l)

def iterN (f : St → Option (AExit × St)) : Nat → St → Option (AExit × St)
  | 0, _ => none
  | n + 1, st => (f st).bind fun p => match p.1 with
    | .normal => iterN f n p.2
    | _ => some p

open Classical in
noncomputable def iterW (f : St → Option (AExit × St)) (st : St) : Option (AExit × St) :=
  if h : ∃ n, (iterN f n st).isSome = true then iterN f h.choose st else none

theorem iterW_n {f : St → Option (AExit × St)} {st : St} {r : AExit × St} (h : iterW f st = some r) : ∃ n, iterN f n st = some r := by
  unfold iterW at h
  split at h
  · exact ⟨_, h⟩
  · cases h

theorem iterN_mono {f : St → Option (AExit × St)} : ∀ {n : Nat} {st : St} {r : AExit × St}, iterN f n st = some r → iterN f (n + 1) st = some r
  | 0, _, _, h => by simp [iterN] at h
  | n + 1, st, r, h => by
    rw [iterN] at h ⊢
    obtain ⟨p, hp, h⟩ := Option.bind_eq_some_iff.1 h
    rw [hp]
    simp only [Option.bind_some]
    obtain ⟨e, s1⟩ := p
    cases e with
    | normal => exact iterN_mono h
    | exit id => exact h
    | ret => exact h

theorem iterN_le {f : St → Option (AExit × St)} {n m : Nat} {st : St} {r : AExit × St} (h : iterN f n st = some r) (hm : n ≤ m) : iterN f m st = some r := by
  induction hm with
  | refl => exact h
  | step _ ih => exact iterN_mono ih

theorem iterW_of {f : St → Option (AExit × St)} {n : Nat} {st : St} {r : AExit × St} (h : iterN f n st = some r) : iterW f st = some r := by
  have hex : ∃ n, (iterN f n st).isSome = true := ⟨n, by rw [h]; rfl⟩
  unfold iterW
  rw [dif_pos hex]
  obtain ⟨r', hr'⟩ := Option.isSome_iff_exists.1 hex.choose_spec
  rw [hr']
  have h1 := iterN_le h (Nat.le_max_left n hex.choose)
  have h2 := iterN_le hr' (Nat.le_max_right n hex.choose)
  rw [h1] at h2
  exact h2.symm

/-- One round more. -/
theorem iterW_step {f : St → Option (AExit × St)} {st st' : St} (h : f st = some (.normal, st')) {r : AExit × St} (hr : iterW f st' = some r) : iterW f st = some r := by
  obtain ⟨n, hn⟩ := iterW_n hr
  refine iterW_of (n := n + 1) ?_
  rw [iterN, h]
  exact hn

/-- The last round. -/
theorem iterW_exit {f : St → Option (AExit × St)} {st st' : St} {e : AExit} (h : f st = some (e, st')) (he : e ≠ .normal) : iterW f st = some (e, st') := by
  refine iterW_of (n := 1) ?_
  rw [iterN, h]
  cases e with
  | normal => exact absurd rfl he
  | exit id => rfl
  | ret => rfl

noncomputable def exec (P : Program) (env : Env) : ACode → St → Option (AExit × St)
  | .skip, st => some (.normal, st)
  | .ops l, st => (runOps P env none l st).map fun st => (.normal, st)
  | .opsR n l, st => (runOps P env (some st.h.length) l ⟨st.t, st.h ++ List.replicate n .free⟩).map fun st => (.normal, st)
  | .seq a b, st => (exec P env a st).bind fun p => match p.1 with
    | .normal => exec P env b p.2
    | e => some (e, p.2)
  | .cond c x y, st => match st.ev c with
    | .i (.s (.bool t)) => if t then exec P env x st else exec P env y st
    | _ => none
  | .block id c, st => (exec P env c st).map fun p => match p.1 with
    | .exit id' => if id' = id then (.normal, p.2) else (.exit id', p.2)
    | e => (e, p.2)
  | .loop c, st => iterW (exec P env c) st
  | .exit id, st => some (.exit id, st)
  | .ret, st => some (.ret, st)

/-- How a function is called: 0 as one that changes nothing, 1 as one that hands over what it made, 3 so where the order is the text's alone, 2 as it runs, 4 as 0, and those of mode 3 beside it too. -/
abbrev Modes := Nat → Nat

/-- A region that calls a function of mode 4: there all others but those of modes 1 and 2 change nothing. -/
def calmReg (m : Modes) (ops : Array Oper) : Bool := ops.any fun o => match o.op with
  | .call c => match c.callee with
    | .value (.func f) => m f == 4
    | _ => false
  | _ => false

def compOper (P : Program) (m : Modes) (sq : Bool) (N : Nat) (ops : Array Oper) (o : Oper) : Option AOper :=
  if o.dst.all (· < N) = true then
    (compOp P o).bind fun aop =>
      match o.guard with
      | none => some ⟨o.dst, finOp sq (hintOf P o) (fun f => m f == 2 || m f == 1 || (sq && m f == 3 && !calmReg m ops)) (normOp P aop), none, [], none⟩
      | some (j, want) => ((ops[j]?).bind (·.dst)).bind fun d => if d < N then some ⟨o.dst, finOp sq (hintOf P o) (fun f => m f == 2 || m f == 1 || (sq && m f == 3 && !calmReg m ops)) (normOp P aop), some (d, want), [], none⟩ else none
  else none

end Go.AM
