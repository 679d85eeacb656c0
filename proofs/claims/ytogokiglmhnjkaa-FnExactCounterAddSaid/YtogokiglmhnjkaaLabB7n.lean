/- From operations with types to operations that know none. No condition. -/
import Derived.Test.YtogokiglmhnjkaaLabB7
import Derived.Laws.Strings
set_option linter.unusedVariables false
set_option linter.unusedSimpArgs false
namespace Go.AM

def isStr (P : Program) (t : TypeId) : Bool := match P.underlying t with | some .string => true | _ => false
def isBool (P : Program) (t : TypeId) : Bool := match P.underlying t with | some .bool => true | _ => false

def normPu (P : Program) : Pu → Option NPu
  | .bin op t x y =>
    if isInt P t || isStr P t then some (.ar op)
    else if isBool P t then match op with
      | .eql => some (.beq false)
      | .neq => some (.beq true)
      | _ => none
    else none
  | .un op => some (.un op)
  | .conv s d => match P.underlying d with
    | some (.int k) => if isInt P s then some (.conv k) else none
    | some .string => if isStr P s then some .convS else none
    | _ => none
  | .idx t => if isStr P t then some .idx else none
  | .len ats t => match ats[0]? with
    | some s => if isStr P s then some .len else none
    | none => none
  | .max _ _ => some .max
  | .min _ _ => some .min
  | .slS t lo hi => if isStr P t then some (.slS lo hi) else none
  | _ => none

def normOp (P : Program) : AOp → AOp
  | .pu p xs => match normPu P p with
    | some q => .pu (.n q) xs
    | none => .pu p xs
  | op => op

section
variable {P : Program}

theorem pureOf_underlying {t : TypeId} {d : TypeDesc} (h : P.underlying t = some d) : pureOf P (underlying t) = some d := by
  unfold underlying
  rw [pureOf_bind]
  simp only [program, pureOf, Option.bind_some, h]
  rfl

theorem isStr_ok {t : TypeId} (h : isStr P t = true) : P.underlying t = some .string := by
  unfold isStr at h; split at h <;> first | assumption | cases h
theorem isBool_ok {t : TypeId} (h : isBool P t = true) : P.underlying t = some .bool := by
  unfold isBool at h; split at h <;> first | assumption | cases h

theorem pureOf_pure {α : Type} (a : α) : pureOf P (pure a) = some a := rfl

theorem guard_int {op : BinOp} {t : TypeId} {x y : Operand} {k k' : IntKind} {a b : Int} : pureOf P (eqGuard op t x y (.int k a) (.int k' b)) = some () := by cases op <;> rfl
theorem guard_str {op : BinOp} {t : TypeId} {x y : Operand} {a b : ByteArray} : pureOf P (eqGuard op t x y (.string a) (.string b)) = some () := by cases op <;> rfl
theorem guard_bool {op : BinOp} {t : TypeId} {x y : Operand} {a b : Bool} : pureOf P (eqGuard op t x y (.bool a) (.bool b)) = some () := by cases op <;> rfl

theorem toList_beq (x y : ByteArray) : (x.toList == y.toList) = decide (x = y) := by
  by_cases e : x = y
  · subst e; simp
  · rw [decide_eq_false e, ByteArray.toList_eq, ByteArray.toList_eq]
    apply Bool.eq_false_iff.2
    intro h
    refine e ?_
    have : x.data.toList = y.data.toList := by simpa using h
    have h2 := Array.toList_inj.1 this
    cases x; cases y
    cases h2
    rfl

theorem int_ok {op : BinOp} {t : TypeId} {k k' : IntKind} {a b : Int} {v : Value} (h : intBin op k a k' b = some v) : pureOf P (binOp op t (.int k a) (.int k' b)) = some v := by
  cases op <;> simp only [intBin] at h <;> split at h <;> (try cases h) <;> rename_i hc
  all_goals first
    | (obtain ⟨rfl, hb⟩ := hc; simp [binOp, Op.intArith, Op.intDiv, Op.intBits, Op.intCmp, pureOf_pure, hb]; done)
    | (subst hc; simp [binOp, Op.intArith, Op.intDiv, Op.intBits, Op.intCmp, pureOf_pure]; done)
    | (simp [binOp, Op.shift, hc, pureOf_pure]; done)
    | (subst hc; simp [binOp, Op.intArith, Op.intDiv, Op.intBits, Op.intCmp, pureOf_pure]; rfl)

theorem str_ok {op : BinOp} {t : TypeId} {a b : ByteArray} {v : Value} (h : strBin op a b = some v) : pureOf P (binOp op t (.string a) (.string b)) = some v := by
  cases op <;> simp only [strBin] at h <;> (try cases h)
  case add =>
    split at h
    · rename_i hc
      cases h
      have : ¬ (((a.size + b.size : Nat) : Int) > IntKind.i64.max) := by
        have : IntKind.i64.max = 9223372036854775807 := rfl
        omega
      simp only [binOp, Op.stringOp, if_neg this, pureOf_pure]
    · cases h
  all_goals simp [binOp, Op.stringOp, toList_beq, pureOf_pure]

theorem bound_ok {k : IntKind} {i : Int} {y : Nat} {code : BoundsCode} (h : 0 ≤ i ∧ i ≤ y) : pureOf P (Instr.sliceBound (.int k i) y code) = some i.toNat := by
  unfold Instr.sliceBound
  rw [pureOf_bind]
  simp only [asIntOf, pureOf_pure, Option.bind_some, if_pos h]

theorem slS_ok {t : TypeId} {s : ByteArray} {lo hi : Option Value} {l h : Int} {v : Value} (ht : P.underlying t = some .string) (hv : strSl s l h = some v)
    (hlo : lo = none ∧ l = 0 ∨ ∃ k, lo = some (.int k l)) (hhi : hi = none ∧ h = s.size ∨ ∃ k, hi = some (.int k h)) : pureOf P (Instr.sliceAt t (.string s) lo hi none) = some v := by
  unfold strSl at hv
  split at hv
  · rename_i hc
    cases hv
    unfold Instr.sliceAt
    rw [pureOf_bind, pureOf_underlying ht]
    simp only [Option.bind_some]
    unfold Instr.slice
    rw [pureOf_bind, pureOf_underlying ht]
    simp only [Option.bind_some, Option.isSome_none, Bool.false_eq_true, if_false]
    unfold Instr.sliceBounds
    rcases hlo with ⟨rfl, rfl⟩ | ⟨k, rfl⟩
    · rcases hhi with ⟨rfl, rfl⟩ | ⟨k', rfl⟩
      · simp only [pureOf_bind, pureOf_pure, Option.bind_some, Int.toNat_natCast, Int.toNat_zero]
      · simp only [pureOf_bind, pureOf_pure, Option.bind_some, Option.isSome_none, Bool.false_eq_true, if_false, Int.toNat_natCast, Int.toNat_zero, bound_ok (P := P) (k := k') (i := h) (y := s.size) (code := .sliceAlen) ⟨by omega, by omega⟩]
    · rcases hhi with ⟨rfl, rfl⟩ | ⟨k', rfl⟩
      · simp only [pureOf_bind, pureOf_pure, Option.bind_some, Option.isSome_none, Bool.false_eq_true, if_false, Int.toNat_natCast, Int.toNat_zero, bound_ok (P := P) (k := k) (i := l) (y := s.size) (code := .sliceB) ⟨by omega, by omega⟩]
      · simp only [pureOf_bind, pureOf_pure, Option.bind_some, Option.isSome_none, Bool.false_eq_true, if_false, Int.toNat_natCast, Int.toNat_zero, bound_ok (P := P) (k := k') (i := h) (y := s.size) (code := .sliceAlen) ⟨by omega, by omega⟩, bound_ok (P := P) (k := k) (i := l) (y := h.toNat) (code := .sliceB) ⟨by omega, by omega⟩]
  · cases hv

theorem npu_ok {p : Pu} {q : NPu} {vs : List Value} {v : Value} (hn : normPu P p = some q) (hv : npu q vs = some v) : pureOf P (p.run vs) = some v := by
  cases p with
  | n q => simp [normPu] at hn
  | field t f => simp [normPu] at hn
  | bin op t x y =>
    simp only [normPu] at hn
    split at hn
    · cases hn
      unfold npu at hv
      split at hv <;> (try cases hv) <;> rename_i hq <;> (try cases hq)
      · simp only [Pu.run, pureOf_bind, guard_int, Option.bind_some]
        exact int_ok hv
      · simp only [Pu.run, pureOf_bind, guard_str, Option.bind_some]
        exact str_ok hv
    · split at hn
      · rename_i hb
        have hb := isBool_ok hb
        have heq : ∀ a b : Bool, pureOf P (Op.equal t (.bool a) (.bool b)) = some (a == b) := by
          intro a b
          unfold Op.equal
          rw [show Op.maxDepth = 9999 + 1 from rfl, Op.equalIn, pureOf_bind, pureOf_underlying hb]
          rfl
        cases op <;> simp only at hn <;> cases hn <;> unfold npu at hv <;> split at hv <;> (try cases hv) <;> rename_i hq <;> (try cases hq)
        · simp only [Pu.run, pureOf_bind, guard_bool, Option.bind_some, binOp, heq, pureOf_pure]
          simp
        · simp only [Pu.run, pureOf_bind, guard_bool, Option.bind_some, binOp, heq, pureOf_pure]
          simp
      · cases hn
  | un op =>
    simp only [normPu] at hn
    cases hn
    unfold npu at hv
    split at hv <;> (try cases hv) <;> rename_i hq <;> (try cases hq)
    · rfl
    · rfl
  | conv s d =>
    simp only [normPu] at hn
    split at hn
    · rename_i k hd
      split at hn
      · rename_i hs
        cases hn
        unfold npu at hv
        split at hv <;> (try cases hv) <;> rename_i hq <;> (try cases hq)
        unfold isInt at hs
        split at hs
        · rename_i k2 hk2
          simp only [Pu.run, convert, pureOf_bind, pureOf_underlying hk2, pureOf_underlying hd, Option.bind_some]
          rfl
        · cases hs
      · cases hn
    · rename_i hd
      split at hn
      · rename_i hs
        have hs := isStr_ok hs
        cases hn
        unfold npu at hv
        split at hv <;> (try cases hv) <;> rename_i hq <;> (try cases hq)
        simp only [Pu.run, convert, pureOf_bind, pureOf_underlying hs, pureOf_underlying hd, Option.bind_some]
        rfl
      · cases hn
    · cases hn
  | idx t =>
    simp only [normPu] at hn
    split at hn
    · rename_i hs
      have hs := isStr_ok hs
      cases hn
      unfold npu at hv
      split at hv <;> (try cases hv) <;> rename_i hq <;> (try cases hq)
      split at hv
      · rename_i s k i h0
        obtain ⟨b, h1, rfl⟩ := Option.map_eq_some_iff.1 hv
        have : s[i.toNat]? = some b := by
          obtain ⟨h2, h3⟩ := Array.getElem?_eq_some_iff.1 h1
          have h2' : i.toNat < s.size := h2
          rw [getElem?_pos s i.toNat h2']
          exact congrArg some h3
        simp only [Pu.run, Instr.index, pureOf_bind, asIntOf, pureOf_pure, Option.bind_some, pureOf_underlying hs, if_pos h0, this]
      · cases hv
    · cases hn
  | len ats t =>
    simp only [normPu] at hn
    split at hn
    · rename_i s0 h0
      split at hn
      · rename_i hs
        have hs := isStr_ok hs
        cases hn
        unfold npu at hv
        split at hv <;> (try cases hv) <;> rename_i hq <;> (try cases hq)
        rename_i s1
        have h1 : (#[Value.string s1] : Array Value)[0]? = some (.string s1) := rfl
        simp only [Pu.run, Builtin.len_, h0, h1, pureOf_bind, pureOf_underlying hs, Option.bind_some]
        rfl
      · cases hn
    · cases hn
  | max ats t =>
    simp only [normPu] at hn
    cases hn
    unfold npu at hv
    split at hv <;> (try cases hv) <;> rename_i hq <;> (try cases hq)
    rfl
  | min ats t =>
    simp only [normPu] at hn
    cases hn
    unfold npu at hv
    split at hv <;> (try cases hv) <;> rename_i hq <;> (try cases hq)
    rfl
  | slS t lo hi =>
    simp only [normPu] at hn
    split at hn
    · rename_i hs
      have hs := isStr_ok hs
      cases hn
      unfold npu at hv
      split at hv <;> (try cases hv) <;> rename_i hq <;> (try cases hq)
      · exact slS_ok hs hv (.inl ⟨rfl, rfl⟩) (.inl ⟨rfl, rfl⟩)
      · exact slS_ok hs hv (.inr ⟨_, rfl⟩) (.inl ⟨rfl, rfl⟩)
      · exact slS_ok hs hv (.inl ⟨rfl, rfl⟩) (.inr ⟨_, rfl⟩)
      · exact slS_ok hs hv (.inr ⟨_, rfl⟩) (.inr ⟨_, rfl⟩)
    · cases hn

theorem normOp_ok {env : Env} {slot : Option Nat} {op : AOp} {st : St} {r : V × Heap} (h : stepOp P env slot (normOp P op) st = some r) : stepOp P env slot op st = some r := by
  unfold normOp at h
  split at h
  · split at h
    · rename_i p xs q hq
      simp only [stepOp] at h ⊢
      obtain ⟨vs, h1, h⟩ := Option.bind_eq_some_iff.1 h
      obtain ⟨v, h2, h⟩ := Option.bind_eq_some_iff.1 h
      rw [h1, Option.bind_some]
      have : npu q vs = some v := by
        simp only [Pu.run] at h2
        split at h2
        · rename_i hu; rw [hu]; exact h2
        · cases h2
      rw [npu_ok hq this, Option.bind_some]
      exact h
    · exact h
  · exact h

end
end Go.AM
