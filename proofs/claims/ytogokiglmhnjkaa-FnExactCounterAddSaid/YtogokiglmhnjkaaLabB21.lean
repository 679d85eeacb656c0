/- Running the abstract machine inside proofs. No condition. -/
import Derived.Test.YtogokiglmhnjkaaLabB18o
set_option linter.unusedVariables false
set_option linter.unusedSimpArgs false
namespace Go.AM

/-- What the walk is not to look into. -/
class Hid (α : Type) where
  v : α

def WO {α : Type} (o : Option α) [K : Hid (α → Prop)] : Prop := ∃ x, o = some x ∧ K.v x


section
variable {α β : Type} {K : α → Prop}
theorem WO_some {x : α} : @WO _ (some x) ⟨K⟩ = K x := by simp [WO]
theorem WO_none : @WO _ none ⟨K⟩ = False := by simp [WO]
theorem WO_bind {o : Option β} {f : β → Option α} : @WO _ (o.bind f) ⟨K⟩ = @WO _ o ⟨(fun x => @WO _ (f x) ⟨K⟩)⟩ := by
  cases o <;> simp [WO]
theorem WO_map {o : Option β} {f : β → α} : @WO _ (o.map f) ⟨K⟩ = @WO _ o ⟨(fun x => K (f x))⟩ := by
  cases o <;> simp [WO]
theorem WO_ite_none {c : Prop} [Decidable c] {a : Option α} : @WO _ (if c then a else none) ⟨K⟩ = (c ∧ @WO _ a ⟨K⟩) := by
  by_cases h : c <;> simp [h, WO_none]
theorem WO_ext {o : Option α} {K' : α → Prop} (h : ∀ x, K x = K' x) : @WO _ o ⟨K⟩ = @WO _ o ⟨K'⟩ := by
  have : K = K' := funext h
  rw [this]
theorem WO_mono {o : Option α} {K' : α → Prop} (h : @WO _ o ⟨K⟩) (hk : ∀ x, K x → K' x) : @WO _ o ⟨K'⟩ := by
  obtain ⟨x, h1, h2⟩ := h
  exact ⟨x, h1, hk x h2⟩
end


def ev (t : Nat → V) : Operand → V
  | .tmp k => t k
  | .const v => match ofVal v with | some x => .i x | none => .bad
  | .func f => .clo f []
  | .global _ => .bad

theorem ev_eq {t : Nat → V} {h : Heap} {o : Operand} : St.ev ⟨t, h⟩ o = ev t o := by cases o <;> rfl
theorem evs_eq {t : Nat → V} {h : Heap} {l : List Operand} : l.map (St.ev ⟨t, h⟩) = l.map (ev t) := List.map_congr_left fun _ _ => ev_eq

abbrev Post := AExit → (Nat → V) → Heap → Prop

def W (P : Program) (env : Env) [c : Hid ACode] (t : Nat → V) (h : Heap) [Q : Hid Post] : Prop := @WO _ (exec P env c.v ⟨t, h⟩) ⟨fun p => Q.v p.1 p.2.t p.2.h⟩

/-- One operation, and what is to hold of its value and the heap behind it. -/
def S (P : Program) (env : Env) [op : Hid AOp] (t : Nat → V) (h : Heap) [K : Hid (V → Heap → Prop)] : Prop := @WO _ (stepOp P env none op.v ⟨t, h⟩) ⟨fun p => K.v p.1 p.2⟩

section
variable {P : Program} {env : Env} {t t' : Nat → V} {h h' : Heap} {Q : Post}


def seqK (P : Program) (env : Env) [b : Hid ACode] [Q : Hid Post] (e : AExit) (t : Nat → V) (h : Heap) : Prop :=
  match e with
  | .normal => @W P env b t h Q
  | e => Q.v e t h

def blockK (id : Nat) [Q : Hid Post] (e : AExit) (t : Nat → V) (h : Heap) : Prop :=
  match e with
  | .exit id' => if id' = id then Q.v .normal t h else Q.v (.exit id') t h
  | e => Q.v e t h

theorem seqK_normal {b : ACode} : @seqK P env ⟨b⟩ ⟨Q⟩ .normal t h = @W P env ⟨b⟩ t h ⟨Q⟩ := rfl
theorem seqK_exit {b : ACode} {id : Nat} : @seqK P env ⟨b⟩ ⟨Q⟩ (.exit id) t h = Q (.exit id) t h := rfl
theorem seqK_ret {b : ACode} : @seqK P env ⟨b⟩ ⟨Q⟩ .ret t h = Q .ret t h := rfl
theorem blockK_normal {id : Nat} : @blockK id ⟨Q⟩ .normal t h = Q .normal t h := rfl
theorem blockK_ret {id : Nat} : @blockK id ⟨Q⟩ .ret t h = Q .ret t h := rfl
theorem blockK_hit {id : Nat} : @blockK id ⟨Q⟩ (.exit id) t h = Q .normal t h := by simp [blockK]
theorem blockK_miss {id id' : Nat} (hn : (id' == id) = false) : @blockK id ⟨Q⟩ (.exit id') t h = Q (.exit id') t h := by
  have : id' ≠ id := by simpa using hn
  simp [blockK, this]

theorem W_skip : @W P env ⟨.skip⟩ t h ⟨Q⟩ = Q .normal t h := by simp [W, exec, WO_some]
theorem W_ret : @W P env ⟨.ret⟩ t h ⟨Q⟩ = Q .ret t h := by simp [W, exec, WO_some]
theorem W_exit {id : Nat} : @W P env ⟨(.exit id)⟩ t h ⟨Q⟩ = Q (.exit id) t h := by simp [W, exec, WO_some]
theorem W_seq {a b : ACode} : @W P env ⟨(.seq a b)⟩ t h ⟨Q⟩ = @W P env ⟨a⟩ t h ⟨(@seqK P env ⟨b⟩ ⟨Q⟩)⟩ := by
  unfold W
  simp only [exec, WO_bind]
  refine WO_ext fun p => ?_
  obtain ⟨e, s⟩ := p
  cases e <;> simp [seqK, W, WO_some]
theorem W_block {id : Nat} {c : ACode} : @W P env ⟨(.block id c)⟩ t h ⟨Q⟩ = @W P env ⟨c⟩ t h ⟨(@blockK id ⟨Q⟩)⟩ := by
  unfold W
  simp only [exec, WO_map]
  refine WO_ext fun p => ?_
  obtain ⟨e, s⟩ := p
  cases e with
  | exit id' => by_cases h : id' = id <;> simp [blockK, h]
  | _ => simp [blockK]

/-- A branch, by the value of its condition. -/
def W2 (v : V) [A : Hid Prop] [B : Hid Prop] : Prop := match v with
  | .i (.s (.bool t)) => (t = true → A.v) ∧ (t = false → B.v)
  | _ => False

theorem W2_bool {b : Bool} {A B : Prop} : @W2 (.i (.s (.bool b))) ⟨A⟩ ⟨B⟩ = ((b = true → A) ∧ (b = false → B)) := rfl

theorem W2_t {A B : Prop} : @W2 (.i (.s (.bool true))) ⟨A⟩ ⟨B⟩ = A := by simp [W2]
theorem W2_f {A B : Prop} : @W2 (.i (.s (.bool false))) ⟨A⟩ ⟨B⟩ = B := by simp [W2]
theorem W2_of {b : Bool} {A B : Prop} (h1 : b = true → A) (h2 : b = false → B) : @W2 (.i (.s (.bool b))) ⟨A⟩ ⟨B⟩ := ⟨h1, h2⟩

theorem W_cond {c : Operand} {x y : ACode} : @W P env ⟨(.cond c x y)⟩ t h ⟨Q⟩ = @W2 (ev t c) ⟨(@W P env ⟨x⟩ t h ⟨Q⟩)⟩ ⟨(@W P env ⟨y⟩ t h ⟨Q⟩)⟩ := by
  unfold W W2
  simp only [exec, ev_eq]
  split
  · rename_i t he
    cases t <;> simp [he]
  · rename_i he
    split
    · rename_i t h2; exact absurd h2 (he t)
    · simp [WO_none]

theorem W_nil : @W P env ⟨(.ops [])⟩ t h ⟨Q⟩ = Q .normal t h := by simp [W, exec, runOps, WO_some]
theorem W_cons {o : AOper} {l : List AOper} : @W P env ⟨(.ops (o :: l))⟩ t h ⟨Q⟩ ↔ ∃ p, outA P env none o t h = some p ∧ (∀ x, x ∈ o.apart → kept h p.2 (ev t x)) ∧ @W P env ⟨(.ops l)⟩ (put t o.dst p.1) p.2 ⟨Q⟩ := by
  unfold W
  simp only [exec, runOps, WO_map, WO_bind]
  constructor
  · rintro ⟨st, h1, h2⟩
    obtain ⟨p, h3, h4, rfl⟩ := stepA_some.1 h1
    refine ⟨p, h3, ?_, h2⟩
    intro x hx
    have := h4 x hx
    rwa [ev_eq] at this
  · rintro ⟨p, h3, h4, h2⟩
    refine ⟨_, stepA_some.2 ⟨p, h3, ?_, rfl⟩, h2⟩
    intro x hx
    rw [ev_eq]
    exact h4 x hx

def keptL (h h' : Heap) : List V → Prop
  | [] => True
  | v :: l => kept h h' v ∧ keptL h h' l

theorem keptL_map {h h' : Heap} {t : Nat → V} : ∀ {l : List Operand}, keptL h h' (l.map (ev t)) ↔ ∀ x, x ∈ l → kept h h' (ev t x)
  | [] => by simp [keptL]
  | x :: l => by
    simp only [List.map_cons, keptL, keptL_map (l := l), List.forall_mem_cons]

theorem W_op {d : Option Nat} {op : AOp} {l : List AOper} : @W P env ⟨(.ops (⟨d, op, none, [], none⟩ :: l))⟩ t h ⟨Q⟩ = @S P env ⟨op⟩ t h ⟨fun v h' => @W P env ⟨(.ops l)⟩ (put t d v) h' ⟨Q⟩⟩ := by
  apply propext
  rw [W_cons]
  unfold S
  simp only [outA, wantedA, slotOf, Option.bind_some, if_true]
  constructor
  · rintro ⟨p, h1, _, h2⟩; exact ⟨p, h1, h2⟩
  · rintro ⟨p, h1, h2⟩; exact ⟨p, h1, by simp, h2⟩

theorem W_opa {d : Option Nat} {op : AOp} {a : Operand} {ap : List Operand} {l : List AOper} : @W P env ⟨(.ops (⟨d, op, none, a :: ap, none⟩ :: l))⟩ t h ⟨Q⟩ =
    @S P env ⟨op⟩ t h ⟨fun v h' => keptL h h' ((a :: ap).map (ev t)) ∧ @W P env ⟨(.ops l)⟩ (put t d v) h' ⟨Q⟩⟩ := by
  apply propext
  rw [W_cons]
  unfold S
  simp only [outA, wantedA, slotOf, Option.bind_some, if_true]
  constructor
  · rintro ⟨p, h1, h3, h2⟩; exact ⟨p, h1, keptL_map.2 h3, h2⟩
  · rintro ⟨p, h1, h3, h2⟩; exact ⟨p, h1, keptL_map.1 h3, h2⟩

/-- An operation under a guard. -/
def W3 (v : V) (want : Bool) [A : Hid Prop] [B : Hid Prop] : Prop := match v with
  | .i (.s (.bool t)) => (t = want → A.v) ∧ (t ≠ want → B.v)
  | .i (.tup []) => B.v
  | _ => False

theorem W3_true {b : Bool} {A B : Prop} : @W3 (.i (.s (.bool b))) true ⟨A⟩ ⟨B⟩ = ((b = true → A) ∧ (b = false → B)) := by simp [W3]
theorem W3_false {b : Bool} {A B : Prop} : @W3 (.i (.s (.bool b))) false ⟨A⟩ ⟨B⟩ = ((b = false → A) ∧ (b = true → B)) := by simp [W3]
theorem W3_undef {b : Bool} {A B : Prop} : @W3 (.i (.tup [])) b ⟨A⟩ ⟨B⟩ = B := by simp [W3]

theorem W3_tt {A B : Prop} : @W3 (.i (.s (.bool true))) true ⟨A⟩ ⟨B⟩ = A := by simp [W3]
theorem W3_ff {A B : Prop} : @W3 (.i (.s (.bool false))) false ⟨A⟩ ⟨B⟩ = A := by simp [W3]
theorem W3_tf {A B : Prop} : @W3 (.i (.s (.bool true))) false ⟨A⟩ ⟨B⟩ = B := by simp [W3]
theorem W3_ft {A B : Prop} : @W3 (.i (.s (.bool false))) true ⟨A⟩ ⟨B⟩ = B := by simp [W3]
theorem W3_oft {b : Bool} {A B : Prop} (h1 : b = true → A) (h2 : b = false → B) : @W3 (.i (.s (.bool b))) true ⟨A⟩ ⟨B⟩ := by rw [W3_true]; exact ⟨h1, h2⟩
theorem W3_off {b : Bool} {A B : Prop} (h1 : b = false → A) (h2 : b = true → B) : @W3 (.i (.s (.bool b))) false ⟨A⟩ ⟨B⟩ := by rw [W3_false]; exact ⟨h1, h2⟩

theorem W_opg {d : Option Nat} {op : AOp} {g : Nat} {want : Bool} {l : List AOper} : @W P env ⟨(.ops (⟨d, op, some (g, want), [], none⟩ :: l))⟩ t h ⟨Q⟩ =
    @W3 (t g) want ⟨(@S P env ⟨op⟩ t h ⟨fun v h' => @W P env ⟨(.ops l)⟩ (put t d v) h' ⟨Q⟩⟩)⟩ ⟨(@W P env ⟨(.ops l)⟩ (put t d undefV) h ⟨Q⟩)⟩ := by
  apply propext
  rw [W_cons]
  simp only [List.not_mem_nil, false_implies, implies_true, true_and]
  unfold S W3
  simp only [outA, wantedA, slotOf, Option.bind_some]
  split
  · rename_i b he
    simp only [he, Option.bind_some]
    cases b <;> cases want <;> simp [WO]
  · rename_i he
    simp [he]
  · rename_i h1 h2
    split
    · rename_i b he; exact (h1 b he).elim
    · rename_i he; exact (h2 he).elim
    · simp

/-- A region's operations, blocks being kept free from b0 on. -/
def WR (P : Program) (env : Env) (b0 : Nat) [c : Hid (List AOper)] (t : Nat → V) (h : Heap) [Q : Hid Post] : Prop := @WO _ (runOps P env (some b0) c.v ⟨t, h⟩) ⟨fun st => Q.v .normal st.t st.h⟩

/-- One operation that lays its block at b. -/
def SS (P : Program) (env : Env) (b : Nat) [op : Hid AOp] (t : Nat → V) (h : Heap) [K : Hid (V → Heap → Prop)] : Prop := @WO _ (stepOp P env (some b) op.v ⟨t, h⟩) ⟨fun p => K.v p.1 p.2⟩

theorem W_opsR {n : Nat} {l : List AOper} : @W P env ⟨(.opsR n l)⟩ t h ⟨Q⟩ = @WR P env h.length ⟨l⟩ t (h ++ List.replicate n .free) ⟨Q⟩ := by
  unfold W WR
  simp only [exec, WO_map]

theorem WR_nil {b0 : Nat} : @WR P env b0 ⟨[]⟩ t h ⟨Q⟩ = Q .normal t h := by simp [WR, runOps, WO_some]
theorem WR_cons {b0 : Nat} {o : AOper} {l : List AOper} : @WR P env b0 ⟨o :: l⟩ t h ⟨Q⟩ ↔ ∃ p, outA P env (some b0) o t h = some p ∧ (∀ x, x ∈ o.apart → kept h p.2 (ev t x)) ∧ @WR P env b0 ⟨l⟩ (put t o.dst p.1) p.2 ⟨Q⟩ := by
  unfold WR
  simp only [runOps, WO_bind]
  constructor
  · rintro ⟨st, h1, h2⟩
    obtain ⟨p, h3, h4, rfl⟩ := stepA_some.1 h1
    refine ⟨p, h3, ?_, h2⟩
    intro x hx
    have := h4 x hx
    rwa [ev_eq] at this
  · rintro ⟨p, h3, h4, h2⟩
    refine ⟨_, stepA_some.2 ⟨p, h3, ?_, rfl⟩, h2⟩
    intro x hx
    rw [ev_eq]
    exact h4 x hx

theorem WR_op {b0 : Nat} {d : Option Nat} {op : AOp} {l : List AOper} : @WR P env b0 ⟨⟨d, op, none, [], none⟩ :: l⟩ t h ⟨Q⟩ = @S P env ⟨op⟩ t h ⟨fun v h' => @WR P env b0 ⟨l⟩ (put t d v) h' ⟨Q⟩⟩ := by
  apply propext
  rw [WR_cons]
  unfold S
  simp only [outA, wantedA, slotOf, Option.bind_some, if_true]
  constructor
  · rintro ⟨p, h1, _, h2⟩; exact ⟨p, h1, h2⟩
  · rintro ⟨p, h1, h2⟩; exact ⟨p, h1, by simp, h2⟩

theorem WR_ops {b0 k : Nat} {d : Option Nat} {op : AOp} {l : List AOper} : @WR P env b0 ⟨⟨d, op, none, [], some k⟩ :: l⟩ t h ⟨Q⟩ = @SS P env (b0 + k) ⟨op⟩ t h ⟨fun v h' => @WR P env b0 ⟨l⟩ (put t d v) h' ⟨Q⟩⟩ := by
  apply propext
  rw [WR_cons]
  unfold SS
  simp only [outA, wantedA, slotOf, Option.bind_some, Option.map_some, if_true]
  constructor
  · rintro ⟨p, h1, _, h2⟩; exact ⟨p, h1, h2⟩
  · rintro ⟨p, h1, h2⟩; exact ⟨p, h1, by simp, h2⟩

theorem WR_opa {b0 : Nat} {d : Option Nat} {op : AOp} {a : Operand} {ap : List Operand} {l : List AOper} : @WR P env b0 ⟨⟨d, op, none, a :: ap, none⟩ :: l⟩ t h ⟨Q⟩ =
    @S P env ⟨op⟩ t h ⟨fun v h' => keptL h h' ((a :: ap).map (ev t)) ∧ @WR P env b0 ⟨l⟩ (put t d v) h' ⟨Q⟩⟩ := by
  apply propext
  rw [WR_cons]
  unfold S
  simp only [outA, wantedA, slotOf, Option.bind_some, if_true]
  constructor
  · rintro ⟨p, h1, h3, h2⟩; exact ⟨p, h1, keptL_map.2 h3, h2⟩
  · rintro ⟨p, h1, h3, h2⟩; exact ⟨p, h1, keptL_map.1 h3, h2⟩

theorem put_eq {d : Nat} {v : V} : put t (some d) v d = v := by simp [put]
theorem put_no {d k : Nat} {v : V} (hk : (k == d) = false) : put t (some d) v k = t k := by
  have : k ≠ d := by simpa using hk
  simp [put, this]
theorem put_none {v : V} : put t none v = t := rfl

/-- The value that comes back, and what must hold of it. -/
def retK (res : List ARes) [K : Hid (V → Heap → Prop)] (e : AExit) (t : Nat → V) (h : Heap) : Prop := match e with
  | .exit _ => False
  | _ => @WO _ (retV ⟨t, h⟩ res) ⟨fun v => K.v v h⟩
theorem retK_ret {res : List ARes} {K : V → Heap → Prop} : @retK res ⟨K⟩ .ret t h = @WO _ (retV ⟨t, h⟩ res) ⟨fun v => K v h⟩ := rfl
theorem retK_normal {res : List ARes} {K : V → Heap → Prop} : @retK res ⟨K⟩ .normal t h = @WO _ (retV ⟨t, h⟩ res) ⟨fun v => K v h⟩ := rfl

def R (P : Program) (env : Env) (F : AFn) (args : List V) (H : Heap) (K : V → Heap → Prop) : Prop := @WO _ (runFn P env F args H) ⟨fun p => K p.1 p.2⟩

theorem R_of {F : AFn} {args : List V} {H : Heap} {K : V → Heap → Prop} (hl : args.length ≤ F.N) (h : @W P env ⟨F.code⟩ (initT args) H ⟨(@retK F.res ⟨K⟩)⟩) : R P env F args H K := by
  unfold R runFn
  rw [if_pos hl]
  simp only [WO_bind]
  refine WO_mono h ?_
  rintro ⟨e, s⟩ h
  cases e with
  | exit id => exact h.elim
  | normal => simpa [retK, WO_map] using h
  | ret => simpa [retK, WO_map] using h

theorem run_of {F : AFn} {args : List V} {H H' : Heap} {v : V} (h : R P env F args H fun v' h' => v' = v ∧ h' = H') : runFn P env F args H = some (v, H') := by
  obtain ⟨⟨v', h'⟩, e, h1, h2⟩ := h
  simp only at h1 h2
  rw [e, h1, h2]

/-- A loop, by what holds ahead of each round and a number that falls. -/
theorem W_loop {c : ACode} (Inv : Nat → (Nat → V) → Heap → Prop) (n : Nat) (h0 : Inv n t h)
    (hr : ∀ n t h, Inv n t h → @W P env ⟨c⟩ t h ⟨fun e t' h' => match e with | .normal => ∃ m, m < n ∧ Inv m t' h' | e => Q e t' h'⟩) : @W P env ⟨(.loop c)⟩ t h ⟨Q⟩ := by
  induction n using Nat.strongRecOn generalizing t h with
  | ind n ih =>
    obtain ⟨⟨e, s⟩, h1, h2⟩ := hr n t h h0
    cases e with
    | normal =>
      obtain ⟨m, hm, hI⟩ := h2
      obtain ⟨p, h3, h4⟩ := ih m hm hI
      refine ⟨p, ?_, h4⟩
      simp only [exec] at h3 ⊢
      exact iterW_step h1 h3
    | exit id =>
      refine ⟨(.exit id, s), ?_, h2⟩
      simp only [exec]
      exact iterW_exit h1 (by simp)
    | ret =>
      refine ⟨(.ret, s), ?_, h2⟩
      simp only [exec]
      exact iterW_exit h1 (by simp)

theorem W_mono {c : ACode} {Q' : Post} (hw : @W P env ⟨c⟩ t h ⟨Q⟩) (hq : ∀ e t h, Q e t h → Q' e t h) : @W P env ⟨c⟩ t h ⟨Q'⟩ := WO_mono hw fun p => hq p.1 p.2.t p.2.h

end

/-! ### What the operations come to -/

def pv (q : NPu) (vs : List V) : Option V := (vs.mapM toValV).bind fun vs => (npu q vs).bind fun v => (ofVal v).map .i
def pickV (c a b : V) : Option V := match c with
  | .i (.s (.bool t)) => some (if t then a else b)
  | _ => none
def fillT (t : Nat → V) : List V → List (Nat × Nat × Operand) → Option (List V)
  | cs, [] => some cs
  | cs, (off, size, x) :: rest => if (ev t x).cells.all V.one = true ∧ (ev t x).cells.length = size ∧ off + size ≤ cs.length then fillT t (splice cs off (ev t x).cells) rest else none
theorem fill_eq {t : Nat → V} {h : Heap} : ∀ {cs : List V} {ps : List (Nat × Nat × Operand)}, fillV ⟨t, h⟩ cs ps = fillT t cs ps
  | cs, [] => rfl
  | cs, (off, size, x) :: rest => by
    simp only [fillV, fillT, ev_eq, fill_eq]
def bndHi (t : Nat → V) (hi : Option Operand) (len : Nat) : Option Nat := match hi with
  | none => some len
  | some o => (intV (ev t o)).bind fun n => if 0 ≤ n ∧ n ≤ len then some n.toNat else none
def bndLo (t : Nat → V) (lo : Option Operand) (h : Nat) : Option Nat := match lo with
  | none => some 0
  | some o => (intV (ev t o)).bind fun n => if 0 ≤ n ∧ n ≤ h then some n.toNat else none
def bnd (t : Nat → V) (lo hi : Option Operand) (len : Nat) : Option (Nat × Nat) := (bndHi t hi len).bind fun h => (bndLo t lo h).map fun l => (l, h)
theorem bounds_eq {t : Nat → V} {h : Heap} {lo hi : Option Operand} : bounds ⟨t, h⟩ lo hi = bnd t lo hi := by
  funext len
  unfold bounds bnd
  have e1 : boundHi ⟨t, h⟩ hi len = bndHi t hi len := by cases hi <;> simp [boundHi, bndHi, ev_eq]
  have e2 : ∀ n, boundLo ⟨t, h⟩ lo n = bndLo t lo n := by intro n; cases lo <;> simp [boundLo, bndLo, ev_eq]
  rw [e1]
  simp only [e2]

section
variable {P : Program} {env : Env} {t : Nat → V} {h : Heap} {K : V → Heap → Prop}

theorem ev_tmp {k : Nat} : ev t (.tmp k) = t k := rfl
theorem ev_int {k : IntKind} {n : Int} : ev t (.const (.int k n)) = .i (.s (.int k n)) := rfl
theorem ev_bool {b : Bool} : ev t (.const (.bool b)) = .i (.s (.bool b)) := rfl
theorem ev_str {b : ByteArray} : ev t (.const (.string b)) = .i (.s (.string b)) := rfl
theorem ev_nil : ev t (.const (.slice none 0 0)) = .i (.s (.slice none 0 0)) := rfl
theorem ev_func {k : Nat} : ev t (.func k) = .clo k [] := rfl

theorem S_mv {x : Operand} : @S P env ⟨(.mv x)⟩ t h ⟨K⟩ = K (ev t x) h := by simp [S, stepOp, WO_some, ev_eq]
theorem S_pick {c a b : Operand} : @S P env ⟨(.pick c a b)⟩ t h ⟨K⟩ = @WO _ (pickV (ev t c) (ev t a) (ev t b)) ⟨fun v => K v h⟩ := by
  simp only [S, stepOp, pickV, ev_eq]
  generalize ev t c = u
  split
  · simp [WO_some]
  · rename_i hne
    cases u with
    | i x =>
      cases x with
      | s v => cases v <;> first | (simp [WO_none]; done) | exact (hne _ rfl).elim
      | _ => simp [WO_none]
    | _ => simp [WO_none]
theorem S_pu {q : NPu} {xs : List Operand} : @S P env ⟨(.pu (.n q) xs)⟩ t h ⟨K⟩ = @WO _ (pv q (xs.map (ev t))) ⟨fun v => K v h⟩ := by
  simp only [S, stepOp, pv, evs_eq]
  cases (xs.map (ev t)).mapM toValV with
  | none => simp [WO_none]
  | some vs =>
    simp only [Option.bind_some, Pu.run]
    cases npu q vs with
    | none =>
      have : pureOf P (stuck (α := Value) "") = none := rfl
      simp [WO_none, this]
    | some v =>
      simp only [pureOf_pure, Option.bind_some]
      cases ofVal v <;> simp [WO_none, WO_some]
theorem S_vnil {z : Nat} {ag : Bool} : @S P env ⟨.vnil z ag⟩ t h ⟨K⟩ = K (.hsl h.length 0 0 z ag 0) (h ++ [.virt]) := by simp [S, stepOp, newSlot, WO_some]
theorem S_allocV {hs : List (Nat × Bool)} {z : List Value} : @S P env ⟨(.allocV hs z)⟩ t h ⟨K⟩ = K (.ptr (h.length + nilsOf z) z.length 0) (h ++ List.replicate (nilsOf z) .virt ++ [.cells (virtC hs h.length z)]) := by simp [S, stepOp, WO_some]
theorem S_aeq {neg : Bool} {ks : List SK} {x y : Operand} : @S P env ⟨(.aeq neg ks x y)⟩ t h ⟨K⟩ = @WO _ (scalsV (ev t x)) ⟨fun a => @WO _ (scalsV (ev t y)) ⟨fun b => (fitsL ks a = true ∧ fitsL ks b = true) ∧ K (.i (.s (.bool (xor neg (eqL a b))))) h⟩⟩ := by
  simp only [S, stepOp, ev_eq, WO_bind, WO_ite_none, WO_some]
  repeat (first | (refine WO_ext fun _ => ?_) | simp only [S, stepOp, ev_eq, WO_bind, WO_ite_none, WO_some])
theorem S_alloc {z : List Value} : @S P env ⟨(.alloc z)⟩ t h ⟨K⟩ = K (.ptr h.length z.length 0) (h ++ [.cells (ivs z)]) := by simp [S, stepOp, newSlot, WO_some]
theorem S_box {x : Operand} : @S P env ⟨(.box x)⟩ t h ⟨K⟩ = ((ev t x).cells.all V.one = true ∧ K (.ptr h.length (ev t x).cells.length 0) (h ++ [.cells (ev t x).cells])) := by
  simp only [S, stepOp, newSlot, ev_eq, Option.map_some, WO_ite_none, WO_some]
theorem S_build {z : List Value} {ps : List (Nat × Nat × Operand)} : @S P env ⟨(.build z ps)⟩ t h ⟨K⟩ = @WO _ (fillT t (ivs z) ps) ⟨fun cs => K (.agg cs) h⟩ := by
  simp only [S, stepOp, fill_eq, WO_map]
theorem S_buildSl {z n : Nat} {ag : Bool} {zero : List Value} {ps : List (Nat × Operand)} : @S P env ⟨(.buildSl z ag n zero ps)⟩ t h ⟨K⟩ =
    @WO _ (fillT t ((List.replicate n (ivs zero)).flatten) (ps.map fun p => (p.1 * z, z, p.2))) ⟨fun cs => K (.hsl h.length cs.length 0 z ag n) (h ++ [.cells cs])⟩ := by
  simp only [S, stepOp, newSlot, fill_eq, WO_bind, WO_map, Option.map_some, WO_some]
  repeat (first | (refine WO_ext fun _ => ?_) | simp only [S, stepOp, newSlot, fill_eq, WO_bind, WO_map, Option.map_some, WO_some])
theorem SS_alloc {b : Nat} {z : List Value} : @SS P env b ⟨(.alloc z)⟩ t h ⟨K⟩ = (h[b]? = some .free ∧ K (.ptr b z.length 0) (h.set b (.cells (ivs z)))) := by
  simp only [SS, stepOp, newSlot]
  split
  · rename_i hb; simp [WO_some, hb]
  · rename_i hb
    simp only [Option.map_none, WO_none]
    simpa using fun e => absurd e hb
theorem SS_makeMap {b : Nat} : @SS P env b ⟨.makeMap⟩ t h ⟨K⟩ = (h[b]? = some .free ∧ K (.mp b) (h.set b (.map [] []))) := by
  simp only [SS, stepOp, newSlot]
  split
  · rename_i hb; simp [WO_some, hb]
  · rename_i hb
    simp only [Option.map_none, WO_none]
    simpa using fun e => absurd e hb
theorem SS_makeSl {b z bytes : Nat} {ag : Bool} {zero : List Value} {l c : Operand} : @SS P env b ⟨(.makeSl z ag bytes zero l c)⟩ t h ⟨K⟩ =
    @WO _ (intV (ev t l)) ⟨fun l => @WO _ (intV (ev t c)) ⟨fun c => (0 ≤ l ∧ l ≤ c ∧ c * bytes ≤ 281474976710656 ∧ c ≤ 9223372036854775807) ∧ h[b]? = some .free ∧
      K (.hsl b (l.toNat * z) 0 z ag l.toNat) (h.set b (.cells ((List.replicate l.toNat (ivs zero)).flatten)))⟩⟩ := by
  simp only [SS, stepOp, newSlot, ev_eq, WO_bind]
  refine WO_ext fun x => ?_
  simp only [WO_bind]
  refine WO_ext fun y => ?_
  simp only [WO_ite_none]
  congr 1
  split
  · rename_i hb; simp [WO_some, hb]
  · rename_i hb
    simp only [Option.map_none, WO_none]
    simpa using fun e => absurd e hb
theorem S_makeMap : @S P env ⟨.makeMap⟩ t h ⟨K⟩ = K (.mp h.length) (h ++ [.map [] []]) := by simp [S, stepOp, newSlot, WO_some]
theorem S_lookup {kg ag ok : Bool} {ks : List SK} {zero : List Value} {m k : Operand} : @S P env ⟨(.lookup kg ks ag zero ok m k)⟩ t h ⟨K⟩ =
    @WO _ (mapAt h (ev t m)) ⟨fun q => @WO _ (keyV kg (ev t k)) ⟨fun a => @WO _ (keysI kg ks q.2.1) ⟨fun cs => fitsL ks a = true ∧
      @WO _ (lookV ag zero q.2.2 (hit a cs)) ⟨fun v => K (if ok then .tup [v, .i (.s (.bool (hit a cs).isSome))] else v) h⟩⟩⟩⟩ := by
  simp only [S, stepOp, ev_eq, WO_bind, WO_ite_none, WO_map]
  repeat (first | (refine WO_ext fun _ => ?_) | simp only [S, stepOp, ev_eq, WO_bind, WO_ite_none, WO_map, WO_some])
theorem S_mapSet {kg : Bool} {ks : List SK} {m k x : Operand} : @S P env ⟨(.mapSet kg ks m k x)⟩ t h ⟨K⟩ =
    @WO _ (mapAt h (ev t m)) ⟨fun q => @WO _ (keyV kg (ev t k)) ⟨fun a => @WO _ (keysI kg ks q.2.1) ⟨fun cs => fitsL ks a = true ∧
      K undefV (h.set q.1 (setM kg a (ev t x) q.2.1 q.2.2 (hit a cs)))⟩⟩⟩ := by
  simp only [S, stepOp, ev_eq, WO_bind, WO_ite_none, WO_some]
  repeat (first | (refine WO_ext fun _ => ?_) | simp only [S, stepOp, ev_eq, WO_bind, WO_ite_none, WO_map, WO_some])
theorem S_del {kg : Bool} {ks : List SK} {m k : Operand} : @S P env ⟨(.del kg ks m k)⟩ t h ⟨K⟩ =
    @WO _ (mapAt h (ev t m)) ⟨fun q => @WO _ (keyV kg (ev t k)) ⟨fun a => @WO _ (keysI kg ks q.2.1) ⟨fun cs => fitsL ks a = true ∧
      K undefV (h.set q.1 (delM q.2.1 q.2.2 (hit a cs)))⟩⟩⟩ := by
  simp only [S, stepOp, ev_eq, WO_bind, WO_ite_none, WO_some]
  repeat (first | (refine WO_ext fun _ => ?_) | simp only [S, stepOp, ev_eq, WO_bind, WO_ite_none, WO_map, WO_some])
theorem S_mlen {m : Operand} : @S P env ⟨(.mlen m)⟩ t h ⟨K⟩ = @WO _ (mapAt h (ev t m)) ⟨fun q => K (.i (.s (.int .i64 (q.2.2.length : Nat)))) h⟩ := by
  simp only [S, stepOp, ev_eq, WO_map]
theorem S_load {z : Nat} {ag : Bool} {a : Operand} : @S P env ⟨(.load z ag a)⟩ t h ⟨K⟩ = @WO _ (stepLoad z ag h (ev t a)) ⟨fun v => K v h⟩ := by simp only [S, stepOp, ev_eq, WO_map]
theorem S_store {z : Nat} {a x : Operand} : @S P env ⟨(.store z a x)⟩ t h ⟨K⟩ = @WO _ (stepStore z h (ev t x) (ev t a)) ⟨fun h' => K undefV h'⟩ := by simp only [S, stepOp, ev_eq, WO_map]
theorem S_storeV {hs : List (Nat × Bool)} {z : Nat} {a x : Operand} : @S P env ⟨(.storeV hs z a x)⟩ t h ⟨K⟩ = @WO _ (stepStoreC z (h ++ List.replicate (nilsV (ev t x).cells) .virt) (virtV hs h.length (ev t x).cells) (ev t a)) ⟨fun h' => K undefV h'⟩ := by simp only [S, stepOp, ev_eq, WO_map]
theorem S_nilChk {x : Operand} : @S P env ⟨(.nilChk x)⟩ t h ⟨K⟩ = @WO _ (stepNil (ev t x)) ⟨fun v => K v h⟩ := by simp only [S, stepOp, ev_eq, WO_map]
theorem S_fieldA {o : Nat} {x : Operand} : @S P env ⟨(.fieldA o x)⟩ t h ⟨K⟩ = @WO _ (stepField o (ev t x)) ⟨fun v => K v h⟩ := by simp only [S, stepOp, ev_eq, WO_map]
theorem S_field {off z : Nat} {ag : Bool} {x : Operand} : @S P env ⟨(.field off z ag x)⟩ t h ⟨K⟩ =
    ((off + z ≤ (ev t x).cells.length ∧ isAggV (ev t x) = true) ∧ @WO _ (rowV ag (((ev t x).cells.drop off).take z)) ⟨fun v => K v h⟩) := by simp only [S, stepOp, ev_eq, WO_map, WO_ite_none]
theorem S_idxS {z : Nat} {x i : Operand} : @S P env ⟨(.idxS z x i)⟩ t h ⟨K⟩ = @WO _ (intV (ev t i)) ⟨fun n => @WO _ (stepIdxS z h n (ev t x)) ⟨fun v => K v h⟩⟩ := by
  simp only [S, stepOp, ev_eq, WO_map, WO_bind]
  repeat (first | (refine WO_ext fun _ => ?_) | simp only [S, stepOp, ev_eq, WO_map, WO_bind])
theorem S_idxA {n z : Nat} {x i : Operand} : @S P env ⟨(.idxA n z x i)⟩ t h ⟨K⟩ = @WO _ (intV (ev t i)) ⟨fun k => (0 ≤ k ∧ k < n) ∧ @WO _ (stepIdxA z k.toNat (ev t x)) ⟨fun v => K v h⟩⟩ := by
  simp only [S, stepOp, ev_eq, WO_map, WO_bind, WO_ite_none]
  repeat (first | (refine WO_ext fun _ => ?_) | simp only [S, stepOp, ev_eq, WO_map, WO_bind, WO_ite_none])
theorem S_slice {z : Nat} {x : Operand} {lo hi : Option Operand} : @S P env ⟨(.slice z x lo hi)⟩ t h ⟨K⟩ = @WO _ (stepSlice z (bnd t lo hi) (ev t x)) ⟨fun v => K v h⟩ := by simp only [S, stepOp, ev_eq, WO_map, bounds_eq]
theorem S_sliceA {n z : Nat} {ag : Bool} {x : Operand} {lo hi : Option Operand} : @S P env ⟨(.sliceA n z ag x lo hi)⟩ t h ⟨K⟩ = @WO _ (stepSliceA n z ag (bnd t lo hi) h (ev t x)) ⟨fun v => K v h⟩ := by simp only [S, stepOp, ev_eq, WO_map, bounds_eq]
theorem S_len {x : Operand} : @S P env ⟨(.len x)⟩ t h ⟨K⟩ = @WO _ (lenS (ev t x)) ⟨fun n => K (.i (.s (.int .i64 (n : Int)))) h⟩ := by simp only [S, stepOp, ev_eq, WO_map]
theorem S_append {z y : Nat} {ag : Bool} {s x : Operand} : @S P env ⟨(.append z ag y s x)⟩ t h ⟨K⟩ = @WO _ (srcCells h (ev t x)) ⟨fun ys => @WO _ (lenV (ev t x)) ⟨fun n =>
      (ys.all V.one = true ∧ ys.length = n * z) ∧ @WO _ (stepAppend none z ag y h ys n (ev t s)) ⟨fun p => K p.1 p.2⟩⟩⟩ := by
  simp only [S, stepOp, ev_eq, WO_bind, WO_ite_none]
  repeat (first | (refine WO_ext fun _ => ?_) | simp only [S, stepOp, ev_eq, WO_bind, WO_ite_none])
theorem S_extract {k : Nat} {x : Operand} : @S P env ⟨(.extract k x)⟩ t h ⟨K⟩ = @WO _ (stepExtract k (ev t x)) ⟨fun v => K v h⟩ := by simp only [S, stepOp, ev_eq, WO_map]
theorem S_b2s {x : Operand} : @S P env ⟨(.b2s x)⟩ t h ⟨K⟩ = @WO _ (srcCells h (ev t x)) ⟨fun ys => @WO _ (lenS (ev t x)) ⟨fun n => @WO _ (bytesOf ys) ⟨fun bs =>
      bs.length = n ∧ K (.i (.s (.string (strOfNums bs)))) h⟩⟩⟩ := by
  simp only [S, stepOp, ev_eq, WO_bind, WO_ite_none, WO_some]
  repeat (first | (refine WO_ext fun _ => ?_) | simp only [S, stepOp, ev_eq, WO_bind, WO_ite_none, WO_some])
theorem S_makeSl {z y : Nat} {ag : Bool} {zero : List Value} {l c : Operand} : @S P env ⟨(.makeSl z ag y zero l c)⟩ t h ⟨K⟩ = @WO _ (intV (ev t l)) ⟨fun l => @WO _ (intV (ev t c)) ⟨fun c =>
      (0 ≤ l ∧ l ≤ c ∧ c * y ≤ 281474976710656 ∧ c ≤ 9223372036854775807) ∧
        K (.hsl h.length (l.toNat * z) 0 z ag l.toNat) (h ++ [.cells ((List.replicate l.toNat (ivs zero)).flatten)])⟩⟩ := by
  simp only [S, stepOp, ev_eq, WO_bind, WO_ite_none, newSlot, Option.map_some, WO_some]
  repeat (first | (refine WO_ext fun _ => ?_) | simp only [S, stepOp, ev_eq, WO_bind, WO_ite_none, newSlot, Option.map_some, WO_some])
theorem S_clo {k : Nat} {caps : List Operand} : @S P env ⟨(.clo k caps)⟩ t h ⟨K⟩ = K (.clo k (caps.map (ev t))) h := by simp only [S, stepOp, evs_eq, WO_some]
theorem S_ifc {k : Nat} {x : Operand} : @S P env ⟨(.ifc k x)⟩ t h ⟨K⟩ = K (.ifc k (ev t x)) h := by simp only [S, stepOp, ev_eq, WO_some]
theorem S_call {k : Nat} {args : List Operand} : @S P env ⟨(.call k args)⟩ t h ⟨K⟩ = @WO _ (env k none (args.map (ev t)) h) ⟨fun p => K p.1 p.2⟩ := by simp only [S, stepOp, evs_eq]

/-! ### Values -/

theorem pick_bool {b : Bool} {x y : V} : pickV (.i (.s (.bool b))) x y = some (if b then x else y) := rfl

variable {k : IntKind} {a b : Int}
theorem pv_add : pv (.ar .add) [.i (.s (.int k a)), .i (.s (.int k b))] = some (.i (.s (.int k (k.wrap (a + b))))) := by simp [pv, toValV, toVal, npu, intBin, ofVal, plain]
theorem pv_sub : pv (.ar .sub) [.i (.s (.int k a)), .i (.s (.int k b))] = some (.i (.s (.int k (k.wrap (a - b))))) := by simp [pv, toValV, toVal, npu, intBin, ofVal, plain]
theorem pv_mul : pv (.ar .mul) [.i (.s (.int k a)), .i (.s (.int k b))] = some (.i (.s (.int k (k.wrap (a * b))))) := by simp [pv, toValV, toVal, npu, intBin, ofVal, plain]
theorem pv_quo : pv (.ar .quo) [.i (.s (.int k a)), .i (.s (.int k b))] = if b ≠ 0 then some (.i (.s (.int k (k.wrap (a.tdiv b))))) else none := by
  by_cases h : b = 0 <;> simp [pv, toValV, toVal, npu, intBin, ofVal, plain, h]
theorem pv_rem : pv (.ar .rem) [.i (.s (.int k a)), .i (.s (.int k b))] = if b ≠ 0 then some (.i (.s (.int k (a.tmod b)))) else none := by
  by_cases h : b = 0 <;> simp [pv, toValV, toVal, npu, intBin, ofVal, plain, h]
theorem pv_and : pv (.ar .and) [.i (.s (.int k a)), .i (.s (.int k b))] = some (.i (.s (.int k (k.wrap (BitVec.ofInt k.bits a &&& BitVec.ofInt k.bits b).toNat)))) := by simp [pv, toValV, toVal, npu, intBin, ofVal, plain]
theorem pv_or : pv (.ar .or) [.i (.s (.int k a)), .i (.s (.int k b))] = some (.i (.s (.int k (k.wrap (BitVec.ofInt k.bits a ||| BitVec.ofInt k.bits b).toNat)))) := by simp [pv, toValV, toVal, npu, intBin, ofVal, plain]
theorem pv_xor : pv (.ar .xor) [.i (.s (.int k a)), .i (.s (.int k b))] = some (.i (.s (.int k (k.wrap (BitVec.ofInt k.bits a ^^^ BitVec.ofInt k.bits b).toNat)))) := by simp [pv, toValV, toVal, npu, intBin, ofVal, plain]
theorem pv_eql : pv (.ar .eql) [.i (.s (.int k a)), .i (.s (.int k b))] = some (.i (.s (.bool (decide (a = b))))) := by simp [pv, toValV, toVal, npu, intBin, ofVal, plain]
theorem pv_neq : pv (.ar .neq) [.i (.s (.int k a)), .i (.s (.int k b))] = some (.i (.s (.bool (!decide (a = b))))) := by simp [pv, toValV, toVal, npu, intBin, ofVal, plain]
theorem pv_lss : pv (.ar .lss) [.i (.s (.int k a)), .i (.s (.int k b))] = some (.i (.s (.bool (decide (a < b))))) := by simp [pv, toValV, toVal, npu, intBin, ofVal, plain]
theorem pv_leq : pv (.ar .leq) [.i (.s (.int k a)), .i (.s (.int k b))] = some (.i (.s (.bool (decide (a ≤ b))))) := by simp [pv, toValV, toVal, npu, intBin, ofVal, plain]
theorem pv_gtr : pv (.ar .gtr) [.i (.s (.int k a)), .i (.s (.int k b))] = some (.i (.s (.bool (decide (b < a))))) := by simp [pv, toValV, toVal, npu, intBin, ofVal, plain]
theorem pv_geq : pv (.ar .geq) [.i (.s (.int k a)), .i (.s (.int k b))] = some (.i (.s (.bool (decide (b ≤ a))))) := by simp [pv, toValV, toVal, npu, intBin, ofVal, plain]
theorem pv_shl {k' : IntKind} : pv (.ar .shl) [.i (.s (.int k a)), .i (.s (.int k' b))] = if 0 ≤ b then some (.i (.s (.int k (k.wrap (a * 2 ^ min b.toNat k.bits))))) else none := by
  by_cases h : b < 0
  · rw [if_neg (by omega)]; simp [pv, toValV, toVal, npu, intBin, ofVal, plain, h]
  · rw [if_pos (by omega)]; simp [pv, toValV, toVal, npu, intBin, ofVal, plain, h]
theorem pv_shr {k' : IntKind} : pv (.ar .shr) [.i (.s (.int k a)), .i (.s (.int k' b))] = if 0 ≤ b then some (.i (.s (.int k (a.fdiv (2 ^ min b.toNat k.bits))))) else none := by
  by_cases h : b < 0
  · rw [if_neg (by omega)]; simp [pv, toValV, toVal, npu, intBin, ofVal, plain, h]
  · rw [if_pos (by omega)]; simp [pv, toValV, toVal, npu, intBin, ofVal, plain, h]
variable {x y : ByteArray}
theorem pv_sadd : pv (.ar .add) [.i (.s (.string x)), .i (.s (.string y))] = if ((x.size + y.size : Nat) : Int) ≤ 9223372036854775807 then some (.i (.s (.string (x ++ y)))) else none := by
  by_cases h : ((x.size + y.size : Nat) : Int) ≤ 9223372036854775807 <;> simp only [pv, toValV, toVal, npu, strBin, h, if_true, if_false, List.mapM_cons, List.mapM_nil, Option.bind_eq_bind, Option.bind_some, Option.pure_def, Option.bind_none] <;> rfl
theorem pv_seql : pv (.ar .eql) [.i (.s (.string x)), .i (.s (.string y))] = some (.i (.s (.bool (decide (x = y))))) := by simp [pv, toValV, toVal, npu, strBin, ofVal, plain]
theorem pv_sneq : pv (.ar .neq) [.i (.s (.string x)), .i (.s (.string y))] = some (.i (.s (.bool (!decide (x = y))))) := by simp [pv, toValV, toVal, npu, strBin, ofVal, plain]
theorem pv_slss : pv (.ar .lss) [.i (.s (.string x)), .i (.s (.string y))] = some (.i (.s (.bool (Op.bytesLess x.toList y.toList)))) := by simp [pv, toValV, toVal, npu, strBin, ofVal, plain]
theorem pv_sgtr : pv (.ar .gtr) [.i (.s (.string x)), .i (.s (.string y))] = some (.i (.s (.bool (!(Op.bytesLess x.toList y.toList || decide (x = y)))))) := by simp [pv, toValV, toVal, npu, strBin, ofVal, plain]
theorem pv_sleq : pv (.ar .leq) [.i (.s (.string x)), .i (.s (.string y))] = some (.i (.s (.bool (Op.bytesLess x.toList y.toList || decide (x = y))))) := by simp [pv, toValV, toVal, npu, strBin, ofVal, plain]
theorem pv_sgeq : pv (.ar .geq) [.i (.s (.string x)), .i (.s (.string y))] = some (.i (.s (.bool (!Op.bytesLess x.toList y.toList)))) := by simp [pv, toValV, toVal, npu, strBin, ofVal, plain]
theorem pv_beq {n p q : Bool} : pv (.beq n) [.i (.s (.bool p)), .i (.s (.bool q))] = some (.i (.s (.bool (xor n (p == q))))) := by simp [pv, toValV, toVal, npu, ofVal, plain]
theorem pv_not {p : Bool} : pv (.un .not) [.i (.s (.bool p))] = some (.i (.s (.bool (!p)))) := by simp [pv, toValV, toVal, npu, ofVal, plain]
theorem pv_neg : pv (.un .neg) [.i (.s (.int k a))] = some (.i (.s (.int k (k.wrap (0 - a))))) := by simp [pv, toValV, toVal, npu, ofVal, plain]
theorem pv_conv {k' : IntKind} : pv (.conv k') [.i (.s (.int k a))] = some (.i (.s (.int k' (k'.wrap a)))) := by simp [pv, toValV, toVal, npu, ofVal, plain]
theorem pv_convS : pv .convS [.i (.s (.string x))] = some (.i (.s (.string x))) := by simp [pv, toValV, toVal, npu, ofVal, plain]
theorem pv_len : pv .len [.i (.s (.string x))] = some (.i (.s (.int .i64 (x.size : Nat)))) := by simp [pv, toValV, toVal, npu, ofVal, plain]
theorem pv_max : pv .max [.i (.s (.int k a)), .i (.s (.int k b))] = some (.i (.s (.int k (if b > a then b else a)))) := by simp [pv, toValV, toVal, npu, ofVal, plain]
theorem pv_min : pv .min [.i (.s (.int k a)), .i (.s (.int k b))] = some (.i (.s (.int k (if b < a then b else a)))) := by simp [pv, toValV, toVal, npu, ofVal, plain]
theorem pv_idx : pv .idx [.i (.s (.string x)), .i (.s (.int k a))] = if 0 ≤ a then (x.data[a.toNat]?).map fun b => .i (.s (.int .u8 b.toNat)) else none := by
  by_cases h : 0 ≤ a
  · simp only [pv, toValV, toVal, npu, h, if_true, List.mapM_cons, List.mapM_nil, Option.bind_eq_bind, Option.bind_some, Option.pure_def]
    cases x.data[a.toNat]? <;> rfl
  · simp only [pv, toValV, toVal, npu, h, if_false, List.mapM_cons, List.mapM_nil, Option.bind_eq_bind, Option.bind_some, Option.pure_def, Option.bind_none]

theorem cells_int {k : IntKind} {n : Int} : V.cells (.i (.s (.int k n))) = [.i (.s (.int k n))] := rfl
theorem cells_bool {n : Bool} : V.cells (.i (.s (.bool n))) = [.i (.s (.bool n))] := rfl
theorem cells_str : V.cells (.i (.s (.string x))) = [.i (.s (.string x))] := rfl
theorem cells_nil : V.cells (.i (.s (.slice none 0 0))) = [.i (.s (.slice none 0 0))] := rfl
theorem cells_sl {z : Nat} {xs : List I} : V.cells (.i (.sl z xs)) = [.i (.sl z xs)] := rfl
theorem cells_ip {xs : List I} : V.cells (.i (.ip xs)) = [.i (.ip xs)] := rfl
theorem cells_im {ks xs : List I} : V.cells (.i (.im ks xs)) = [.i (.im ks xs)] := rfl
theorem cells_agg {cs : List I} : V.cells (.i (.agg cs)) = cs.map .i := rfl
theorem cells_vagg {cs : List V} : V.cells (.agg cs) = cs := rfl
theorem cells_ptr {b g o : Nat} : V.cells (.ptr b g o) = [.ptr b g o] := rfl
theorem cells_hsl {b g o z len : Nat} {ag : Bool} : V.cells (.hsl b g o z ag len) = [.hsl b g o z ag len] := rfl
theorem cells_mp {b : Nat} : V.cells (.mp b) = [.mp b] := rfl
theorem one_int {k : IntKind} {n : Int} : V.one (.i (.s (.int k n))) = true := rfl
theorem one_bool {n : Bool} : V.one (.i (.s (.bool n))) = true := rfl
theorem one_str : V.one (.i (.s (.string x))) = true := rfl
theorem one_nil : V.one (.i (.s (.slice none 0 0))) = true := rfl
theorem one_sl {z : Nat} {xs : List I} : V.one (.i (.sl z xs)) = true := rfl
theorem one_ip {xs : List I} : V.one (.i (.ip xs)) = true := rfl
theorem one_im {ks xs : List I} : V.one (.i (.im ks xs)) = true := rfl
theorem one_ptr {b g o : Nat} : V.one (.ptr b g o) = true := rfl
theorem one_hsl {b g o z len : Nat} {ag : Bool} : V.one (.hsl b g o z ag len) = true := rfl
theorem one_mp {b : Nat} : V.one (.mp b) = true := rfl

theorem load_ptr {z b n o : Nat} {ag : Bool} : stepLoad z ag h (.ptr b n o) = (getCells h b n).bind fun cs => if o + z ≤ cs.length then rowV ag ((cs.drop o).take z) else none := rfl
theorem load_ip {z : Nat} {ag : Bool} {cs : List I} : stepLoad z ag h (.i (.ip cs)) = if z ≤ cs.length then rowV ag ((cs.take z).map .i) else none := rfl
theorem row_agg {cs : List V} : rowV true cs = some (.agg cs) := rfl
theorem row_one {v : V} {cs : List V} : rowV false (v :: cs) = some v := rfl
theorem field_ptr {b n o off : Nat} : stepField off (.ptr b n o) = some (.ptr b n (o + off)) := rfl
theorem field_ip {off : Nat} {cs : List I} : stepField off (.i (.ip cs)) = if off < cs.length then some (.i (.ip (cs.drop off))) else none := rfl
theorem nil_ptr {b n o : Nat} : stepNil (.ptr b n o) = some (.ptr b n o) := rfl
theorem nil_ip {cs : List I} : stepNil (.i (.ip cs)) = some (.i (.ip cs)) := rfl
theorem storeC_ptr {z b n o : Nat} {ys : List V} : stepStoreC z h ys (.ptr b n o) = (getCells h b n).bind fun cs => if ys.all V.one = true ∧ ys.length = z ∧ o + z ≤ cs.length then some (h.set b (.cells (splice cs o ys))) else none := rfl
theorem store_ptr {z b n o : Nat} {x : V} : stepStore z h x (.ptr b n o) = (getCells h b n).bind fun cs => if x.cells.all V.one = true ∧ x.cells.length = z ∧ o + z ≤ cs.length then some (h.set b (.cells (splice cs o x.cells))) else none := rfl
theorem idx_sl {z : Nat} {n : Int} {xs : List I} : stepIdxS z h n (.i (.sl z xs)) = if 0 ≤ n then (xs[n.toNat]?).map fun x => .i (.ip x.cells) else none := by simp [stepIdxS]
theorem idx_hsl {z b q o len : Nat} {ag : Bool} {n : Int} : stepIdxS z h n (.hsl b q o z ag len) = if 0 ≤ n ∧ n < len then (getCells h b q).map fun _ => .ptr b q (o + n.toNat * z) else none := by simp [stepIdxS]
theorem intV_int {k : IntKind} {n : Int} : intV (.i (.s (.int k n))) = some n := rfl
theorem lenS_sl {z : Nat} {xs : List I} : lenS (.i (.sl z xs)) = some xs.length := rfl
theorem lenS_nil : lenS (.i (.s (.slice none 0 0))) = some 0 := rfl
theorem lenS_hsl {b q o z len : Nat} {ag : Bool} : lenS (.hsl b q o z ag len) = some len := rfl
theorem ext_tup {k : Nat} {vs : List V} : stepExtract k (.tup vs) = vs[k]? := rfl
theorem ext_itup {k : Nat} {vs : List I} : stepExtract k (.i (.tup vs)) = (vs[k]?).map .i := rfl
theorem isAgg_v {cs : List V} : isAggV (.agg cs) = true := rfl
theorem isAgg_i {cs : List I} : isAggV (.i (.agg cs)) = true := rfl

/-! ### The heap -/

theorem gc_left {l : Heap} {b g : Nat} (hb : b < h.length) : getCells (h ++ l) b g = getCells h b g := by
  unfold getCells; rw [List.getElem?_append_left hb]
theorem gc_right {l : Heap} {k g : Nat} : getCells (h ++ l) (h.length + k) g = getCells l k g := by
  unfold getCells; rw [List.getElem?_append_right (by omega), Nat.add_sub_cancel_left]
theorem gc_right0 {l : Heap} {g : Nat} : getCells (h ++ l) h.length g = getCells l 0 g := gc_right (k := 0)
theorem gc_set {b b' g : Nat} {s : Slot} (hb : b ≠ b') : getCells (h.set b s) b' g = getCells h b' g := by
  unfold getCells; rw [List.getElem?_set_ne hb]
theorem gc_set_eq {b g : Nat} {cs : List V} (hb : b < h.length) : getCells (h.set b (.cells cs)) b g = if cs.length = g then some cs else none := by
  unfold getCells; rw [List.getElem?_set_self hb]
theorem gc_zero {g : Nat} {cs : List V} {l : Heap} : getCells (.cells cs :: l) 0 g = if cs.length = g then some cs else none := rfl
theorem gc_zero_v {l : Heap} : getCells (.virt :: l) 0 0 = some [] := rfl
theorem gc_succ {g k : Nat} {s : Slot} {l : Heap} : getCells (s :: l) (k + 1) g = getCells l k g := rfl
theorem set_left {l : Heap} {b : Nat} {s : Slot} (hb : b < h.length) : (h ++ l).set b s = h.set b s ++ l := List.set_append_left _ _ hb
theorem set_right {l : Heap} {k : Nat} {s : Slot} : (h ++ l).set (h.length + k) s = h ++ l.set k s := by
  rw [List.set_append_right _ _ (by omega), Nat.add_sub_cancel_left]
theorem set_right0 {l : Heap} {s : Slot} : (h ++ l).set h.length s = h ++ l.set 0 s := set_right (k := 0)
theorem gc_lt {b g : Nat} {cs : List V} (hc : getCells h b g = some cs) : b < h.length := by
  unfold getCells at hc
  cases hb : h[b]? with
  | none => rw [hb] at hc; cases hc
  | some s => exact (List.getElem?_eq_some_iff.1 hb).1

theorem ret_one {k : Nat} : retV ⟨t, h⟩ [.tmp k] = some (t k) := rfl
theorem ret_cell {k z : Nat} {ag : Bool} : retV ⟨t, h⟩ [.cell k z ag] = stepLoad z ag h (t k) := by
  simp only [retV, List.mapM_cons, List.mapM_nil, resV]
  cases stepLoad z ag h (t k) <;> rfl
theorem init_at {args : List V} {k : Nat} : initT args k = args.getD k undefV := rfl

end
end Go.AM
