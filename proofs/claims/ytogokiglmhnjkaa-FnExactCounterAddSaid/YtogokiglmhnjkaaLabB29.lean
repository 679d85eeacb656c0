/- Loops of plain functions, and loops of code that do what they say. No condition. -/
import Derived.Test.YtogokiglmhnjkaaLabB28
set_option linter.unusedVariables false
set_option linter.unusedSimpArgs false
namespace Go.AM
open Pic (enc dec dec_enc dec_sub)
open PicA (encA decA decA_encA decA_sub)

/-- How a round ends: another one, the loop is left, the function returns. -/
inductive Lp (σ ρ : Type) where
  | go (s : σ)
  | out (s : σ)
  | ret (r : ρ)

/-- How a piece of code ends. -/
inductive Ex (σ ρ : Type) where
  | out (s : σ)
  | ret (r : ρ)

section
variable {σ ρ : Type}

def loopN (step : σ → Option (Lp σ ρ)) : Nat → σ → Option (Ex σ ρ)
  | 0, _ => none
  | n + 1, s => (step s).bind fun e => match e with
    | .go s' => loopN step n s'
    | .out s' => some (.out s')
    | .ret r => some (.ret r)

open Classical in
noncomputable def loopP (step : σ → Option (Lp σ ρ)) (s : σ) : Option (Ex σ ρ) :=
  if h : ∃ n, (loopN step n s).isSome = true then loopN step h.choose s else none

variable {step : σ → Option (Lp σ ρ)} {s s' : σ} {r : ρ} {e : Ex σ ρ}

theorem loopP_n (h : loopP step s = some e) : ∃ n, loopN step n s = some e := by
  unfold loopP at h
  split at h
  · exact ⟨_, h⟩
  · cases h

theorem loopN_succ : ∀ {n : Nat} {s : σ} {e : Ex σ ρ}, loopN step n s = some e → loopN step (n + 1) s = some e
  | 0, s, e, h => by simp [loopN] at h
  | n + 1, s, e, h => by
    rw [loopN] at h ⊢
    obtain ⟨p, hp, h⟩ := Option.bind_eq_some_iff.1 h
    rw [hp, Option.bind_some]
    cases p with
    | go s1 => exact loopN_succ h
    | out s1 => exact h
    | ret r => exact h

theorem loopN_le {n m : Nat} (hm : n ≤ m) (h : loopN step n s = some e) : loopN step m s = some e := by
  induction hm with
  | refl => exact h
  | step _ ih => exact loopN_succ ih

theorem loopP_of {n : Nat} (h : loopN step n s = some e) : loopP step s = some e := by
  have hex : ∃ n, (loopN step n s).isSome = true := ⟨n, by rw [h]; rfl⟩
  unfold loopP
  rw [dif_pos hex]
  obtain ⟨e', he⟩ := Option.isSome_iff_exists.1 hex.choose_spec
  rw [he]
  have h1 := loopN_le (Nat.le_max_left n hex.choose) h
  have h2 := loopN_le (Nat.le_max_right n hex.choose) he
  rw [h1] at h2
  exact h2.symm

theorem loopP_go (h : step s = some (.go s')) : loopP step s = loopP step s' := by
  cases hr : loopP step s' with
  | some e =>
    obtain ⟨n, hn⟩ := loopP_n hr
    exact loopP_of (n := n + 1) (by rw [loopN, h]; exact hn)
  | none =>
    cases hs : loopP step s with
    | none => rfl
    | some e =>
      obtain ⟨n, hn⟩ := loopP_n hs
      cases n with
      | zero => simp [loopN] at hn
      | succ n =>
        rw [loopN, h, Option.bind_some] at hn
        rw [loopP_of hn] at hr
        cases hr

theorem loopP_out (h : step s = some (.out s')) : loopP step s = some (.out s') := loopP_of (n := 1) (by rw [loopN, h]; rfl)
theorem loopP_ret (h : step s = some (.ret r)) : loopP step s = some (.ret r) := loopP_of (n := 1) (by rw [loopN, h]; rfl)

/-- A loop by what holds ahead of each round, and a number that falls. -/
theorem loopP_inv (I : σ → Prop) (m : σ → Nat) (Q : Ex σ ρ → Prop)
    (hb : ∀ s, I s → ∃ e, step s = some e ∧ match e with | .go s' => I s' ∧ m s' < m s | .out s' => Q (.out s') | .ret r => Q (.ret r)) (h0 : I s) : ∃ e, loopP step s = some e ∧ Q e := by
  induction hn : m s using Nat.strongRecOn generalizing s with
  | ind n ih =>
    obtain ⟨e, h1, h2⟩ := hb s h0
    cases e with
    | go s' =>
      obtain ⟨h2, h3⟩ := h2
      obtain ⟨e, h4, h5⟩ := ih (m s') (by omega) h2 rfl
      exact ⟨e, by rw [loopP_go h1]; exact h4, h5⟩
    | out s' => exact ⟨_, loopP_out h1, h2⟩
    | ret r => exact ⟨_, loopP_ret h1, h2⟩

/-- The same, where the result is known ahead. -/
theorem loopP_eq (I : σ → Prop) (m : σ → Nat) (e : Ex σ ρ)
    (hb : ∀ s, I s → (∃ s', step s = some (.go s') ∧ I s' ∧ m s' < m s) ∨ (∃ s', step s = some (.out s') ∧ e = .out s') ∨ ∃ r, step s = some (.ret r) ∧ e = .ret r) (h0 : I s) : loopP step s = some e := by
  obtain ⟨e', h1, rfl⟩ := loopP_inv I m (fun e' => e' = e) (fun s hs => by
    rcases hb s hs with ⟨s', h1, h2, h3⟩ | ⟨s', h1, h2⟩ | ⟨r, h1, h2⟩
    · exact ⟨_, h1, h2, h3⟩
    · exact ⟨_, h1, h2.symm⟩
    · exact ⟨_, h1, h2.symm⟩) h0
  exact h1

end

section
variable {P : Program} {env : Env} {σ ρ : Type} {step : σ → Option (Lp σ ρ)}

/-- A loop of code does what the plain loop says, if each round does. -/
theorem W_loopP {c : ACode} (id : Nat) (I : σ → (Nat → V) → Heap → Prop) (J : ρ → (Nat → V) → Heap → Prop)
    (hb : ∀ s e t h, I s t h → step s = some e → @W P env ⟨c⟩ t h ⟨fun x t' h' => match e with | .go s' => x = .normal ∧ I s' t' h' | .out s' => x = .exit id ∧ I s' t' h' | .ret r => x = .ret ∧ J r t' h'⟩)
    {s : σ} {e : Ex σ ρ} {t : Nat → V} {h : Heap} (hp : loopP step s = some e) (h0 : I s t h) {Q : Post}
    (hq : ∀ x t' h', (match e with | .out s' => x = .exit id ∧ I s' t' h' | .ret r => x = .ret ∧ J r t' h') → Q x t' h') : @W P env ⟨.loop c⟩ t h ⟨Q⟩ := by
  obtain ⟨n, hn⟩ := loopP_n hp
  clear hp
  induction n generalizing s t h with
  | zero => simp [loopN] at hn
  | succ n ih =>
    rw [loopN] at hn
    obtain ⟨p, h1, hn⟩ := Option.bind_eq_some_iff.1 hn
    obtain ⟨⟨x, st⟩, h2, h3⟩ := hb s p t h h0 h1
    simp only at h3
    cases p with
    | go s' =>
      obtain ⟨rfl, h3⟩ := h3
      obtain ⟨q, h4, h5⟩ := ih h3 hn
      refine ⟨q, ?_, h5⟩
      simp only [exec] at h4 ⊢
      exact iterW_step h2 h4
    | out s' =>
      cases hn
      obtain ⟨rfl, h3⟩ := h3
      refine ⟨(.exit id, st), ?_, hq _ _ _ ⟨rfl, h3⟩⟩
      simp only [exec]
      exact iterW_exit h2 (by simp)
    | ret r =>
      cases hn
      obtain ⟨rfl, h3⟩ := h3
      refine ⟨(.ret, st), ?_, hq _ _ _ ⟨rfl, h3⟩⟩
      simp only [exec]
      exact iterW_exit h2 (by simp)

theorem if_t {α : Type} {b : Bool} {x y : α} (hb : b = true) : (if b = true then x else y) = x := if_pos hb
theorem if_f {α : Type} {b : Bool} {x y : α} (hb : b = false) : (if b = true then x else y) = y := if_neg (by rw [hb]; exact Bool.false_ne_true)

/-- A piece of code, and what stands behind it. -/
theorem W_piece {c : ACode} {t : Nat → V} {h : Heap} {Q Q' : Post} (hw : @W P env ⟨c⟩ t h ⟨Q'⟩) (hq : ∀ x t' h', Q' x t' h' → Q x t' h') : @W P env ⟨c⟩ t h ⟨Q⟩ := W_mono hw hq

end
end Go.AM
namespace Go.AM
open Pic (enc dec dec_enc dec_sub)

theorem putT_ne {t : Nat → V} {d k : Nat} {v : V} (hk : k ≠ d) : put t (some d) v k = t k := by simp [put, hk]
theorem blockK_ne {Q : Post} {t : Nat → V} {h : Heap} {id id' : Nat} (hn : id' ≠ id) : @blockK id ⟨Q⟩ (.exit id') t h = Q (.exit id') t h := by simp [blockK, hn]

/-- Two or three results. -/
structure T2 (α β : Type) where
  a : α
  b : β
structure T3 (α β γ : Type) where
  a : α
  b : β
  c : γ

theorem eta_T2 {α β : Type} {p : T2 α β} : T2.mk p.a p.b = p := rfl
theorem eta_T3 {α β γ : Type} {p : T3 α β γ} : T3.mk p.a p.b p.c = p := rfl

def decT2 {α β : Type} [Pic α] [Pic β] : I → Option (T2 α β)
  | .tup [x, y] => (dec x).bind fun a => (dec y).map fun b => ⟨a, b⟩
  | _ => none
def decT3 {α β γ : Type} [Pic α] [Pic β] [Pic γ] : I → Option (T3 α β γ)
  | .tup [x, y, z] => (dec x).bind fun a => (dec y).bind fun b => (dec z).map fun c => ⟨a, b, c⟩
  | _ => none
instance {α β : Type} [Pic α] [Pic β] : Pic (T2 α β) where
  z := 1
  ag := false
  enc p := .tup [enc p.a, enc p.b]
  dec := decT2
  dec_enc p := by simp [decT2, dec_enc]
  len _ := rfl
  pos := by decide
  one := .inr rfl
  row _ := rfl
  dec_sub x p h := by
    unfold decT2 at h
    split at h
    · obtain ⟨a, h1, h⟩ := Option.bind_eq_some_iff.1 h
      obtain ⟨b, h2, rfl⟩ := Option.map_eq_some_iff.1 h
      exact .tup (.cons (dec_sub _ _ h1) (.cons (dec_sub _ _ h2) .nil))
    · cases h
instance {α β γ : Type} [Pic α] [Pic β] [Pic γ] : Pic (T3 α β γ) where
  z := 1
  ag := false
  enc p := .tup [enc p.a, enc p.b, enc p.c]
  dec := decT3
  dec_enc p := by simp [decT3, dec_enc]
  len _ := rfl
  pos := by decide
  one := .inr rfl
  row _ := rfl
  dec_sub x p h := by
    unfold decT3 at h
    split at h
    · obtain ⟨a, h1, h⟩ := Option.bind_eq_some_iff.1 h
      obtain ⟨b, h2, h⟩ := Option.bind_eq_some_iff.1 h
      obtain ⟨c, h3, rfl⟩ := Option.map_eq_some_iff.1 h
      exact .tup (.cons (dec_sub _ _ h1) (.cons (dec_sub _ _ h2) (.cons (dec_sub _ _ h3) .nil)))
    · cases h
section
variable {α β γ : Type} [Pic α] [Pic β] [Pic γ] {t : Nat → V} {h : Heap}
theorem enc_T2 {p : T2 α β} : enc p = .tup [enc p.a, enc p.b] := rfl
theorem enc_T3 {p : T3 α β γ} : enc p = .tup [enc p.a, enc p.b, enc p.c] := rfl
theorem dec_T2 {x y : I} : (dec (.tup [x, y]) : Option (T2 α β)) = (dec x).bind fun a => (dec y).map fun b => ⟨a, b⟩ := rfl
theorem dec_T3 {x y z : I} : (dec (.tup [x, y, z]) : Option (T3 α β γ)) = (dec x).bind fun a => (dec y).bind fun b => (dec z).map fun c => ⟨a, b, c⟩ := rfl

theorem res_tmp {k : Nat} : resV ⟨t, h⟩ (.tmp k) = some (t k) := rfl
theorem res_cell {k z : Nat} {ag : Bool} : resV ⟨t, h⟩ (.cell k z ag) = stepLoad z ag h (t k) := rfl
theorem ret_two {a b : ARes} : retV ⟨t, h⟩ [a, b] = (resV ⟨t, h⟩ a).bind fun x => (resV ⟨t, h⟩ b).map fun y => .tup [x, y] := by
  simp only [retV, List.mapM_cons, List.mapM_nil]
  cases resV ⟨t, h⟩ a <;> simp
  cases resV ⟨t, h⟩ b <;> rfl
theorem ret_three {a b c : ARes} : retV ⟨t, h⟩ [a, b, c] = (resV ⟨t, h⟩ a).bind fun x => (resV ⟨t, h⟩ b).bind fun y => (resV ⟨t, h⟩ c).map fun z => .tup [x, y, z] := by
  simp only [retV, List.mapM_cons, List.mapM_nil]
  cases resV ⟨t, h⟩ a <;> simp
  cases resV ⟨t, h⟩ b <;> simp
  cases resV ⟨t, h⟩ c <;> rfl

/-- What comes back reads as this. -/
def Tells (fresh : Bool) (b : β) (v : V) (h : Heap) : Prop := (snap 9 fresh h v).bind dec = some b

theorem pure_tells {P : Program} {env : Env} {pur : Nat → Bool} {md : Modes} {f : FuncId} {fresh : Bool} {A : AFn} {δ : Type} [PicA δ] {g : δ → Option β} (hE : EnvOK P env) (hpur : ∀ f, pur f = true → PurEnv env f) (hcall : callable P f = true) (hc : compFn P pur md f = some A)
    (hg : ∀ a b, g a = some b → R P env A ((PicA.encA a).map ofI) [] (Tells fresh b)) : PureOK P f fresh (FA g) :=
  pure_typed hE hpur hcall hc fun a b hab => by
    obtain ⟨p, h1, h2⟩ := hg a b hab
    refine ⟨p, h1, ?_⟩
    obtain ⟨r, h3, h4⟩ := Option.bind_eq_some_iff.1 h2
    exact ⟨r, h3, dec_sub _ _ h4⟩
theorem dec_list {x : I} : (dec x : Option (List α)) = decSl x := rfl
theorem snapA_rows1 {n : Nat} {xs : List α} : snapA (n + 1) false h (rows xs) = some (xs.flatMap fun x => (enc x).cells) := snapA_rows rfl
end

/-! ### Bits -/

def andI (k : IntKind) (a b : Int) : Int := k.wrap (BitVec.ofInt k.bits a &&& BitVec.ofInt k.bits b).toNat
def orI (k : IntKind) (a b : Int) : Int := k.wrap (BitVec.ofInt k.bits a ||| BitVec.ofInt k.bits b).toNat
def xorI (k : IntKind) (a b : Int) : Int := k.wrap (BitVec.ofInt k.bits a ^^^ BitVec.ofInt k.bits b).toNat
def shl? (k : IntKind) (a b : Int) : Option Int := if 0 ≤ b then some (k.wrap (a * 2 ^ min b.toNat k.bits)) else none
def shr? (k : IntKind) (a b : Int) : Option Int := if 0 ≤ b then some (a.fdiv (2 ^ min b.toNat k.bits)) else none
section
variable {k k' : IntKind} {a b : Int}
theorem pv_andI : pv (.ar .and) [.i (.s (.int k a)), .i (.s (.int k b))] = some (.i (.s (.int k (andI k a b)))) := pv_and
theorem pv_orI : pv (.ar .or) [.i (.s (.int k a)), .i (.s (.int k b))] = some (.i (.s (.int k (orI k a b)))) := pv_or
theorem pv_xorI : pv (.ar .xor) [.i (.s (.int k a)), .i (.s (.int k b))] = some (.i (.s (.int k (xorI k a b)))) := pv_xor
theorem pv_shlI : pv (.ar .shl) [.i (.s (.int k a)), .i (.s (.int k' b))] = (shl? k a b).map fun n => .i (.s (.int k n)) := by
  rw [pv_shl]
  unfold shl?
  split <;> rfl
theorem pv_shrI : pv (.ar .shr) [.i (.s (.int k a)), .i (.s (.int k' b))] = (shr? k a b).map fun n => .i (.s (.int k n)) := by
  rw [pv_shr]
  unfold shr?
  split <;> rfl
end
/-- A string's byte. -/
def byte? (s : ByteArray) (i : Int) : Option Int := if 0 ≤ i then (s.data[i.toNat]?).map fun b => (b.toNat : Int) else none
theorem pv_byte {x : ByteArray} {k : IntKind} {a : Int} : pv .idx [.i (.s (.string x)), .i (.s (.int k a))] = (byte? x a).map fun n => .i (.s (.int .u8 n)) := by
  rw [pv_idx]
  unfold byte?
  split
  · cases x.data[a.toNat]? <;> rfl
  · rfl
end Go.AM
