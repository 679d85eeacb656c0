/- append. No condition. -/
import Derived.Test.YtogokiglmhnjkaaLabB12
set_option linter.unusedVariables false
set_option linter.unusedSimpArgs false
namespace Go.AM

theorem growBy_le (n : Nat) : ∀ (r c : Nat), 256 ≤ c → c ≤ 2 * n → Builtin.growBy n r c ≤ 2 * n
  | 0, c, _, h => by simpa [Builtin.growBy] using h
  | r + 1, c, h0, h => by
    unfold Builtin.growBy
    split
    · exact h
    · exact growBy_le n r _ (by omega) (by omega)

theorem nextslicecap_le (n c : Nat) (h : c < n) : Builtin.nextslicecap n c ≤ 2 * n := by
  unfold Builtin.nextslicecap
  split
  · omega
  · split
    · omega
    · exact growBy_le n 4 c (by omega) (by omega)

section
variable {P : Program} {base : Nat} {X : Nat → Prop} {o : Oper} {a : Act} {w : World} {H H' : Heap} {G : List Nat} {v : V} {t : Nat → V}

/-- What the compiler looked at ahead of an append. -/
structure AppTy (P : Program) (t1 t2 e : TypeId) (z y : Nat) : Prop where
  hu : P.underlying t1 = some (.slice e)
  hz : szOf P e = some z
  hy : byOf P e = some y
  hi : isInt P t2 = false
  h2 : (P.underlying t2).isSome = true
  yp : 0 < y
  zp : 0 < z
  hzero : (zeroOf P e).map List.length = some z

theorem isInt_no {t2 : TypeId} {d : TypeDesc} (h : isInt P t2 = false) (hd : P.underlying t2 = some d) (k : IntKind) : d ≠ .int k := by
  rintro rfl
  unfold isInt at h
  rw [hd] at h
  simp at h

theorem run_append_room {t1 t2 e : TypeId} {z y n len cap : Nat} {ty : TypeId} {p : Option Addr} {u : Value} {vs : List Value} (hA : AppTy P t1 t2 e z y) (hlen : (Builtin.lenOf u).run P w = .ok n w)
    (hfirst : (Builtin.firstCells z n u).run P w = .ok vs.toArray w) (hroom : len + n ≤ cap) :
    (Builtin.append_ #[t1, t2] ty #[.slice p len cap, u]).run P w =
      match p with
      | some q => ((storeCells (q.add (len * z)) vs).run P w).andThen fun _ w' => .ok (.slice (some q) (len + n) cap) w'
      | none => .ok (.slice none (len + n) cap) w := by
  obtain ⟨d2, hd2⟩ := Option.isSome_iff_exists.1 hA.h2
  have hni := isInt_no hA.hi hd2
  unfold Builtin.append_
  cases d2
  case int k => exact absurd rfl (hni k)
  all_goals
    simp only [List.getElem?_toArray, List.getElem?_cons_zero, List.getElem?_cons_succ, Sem.run_bind, run_underlying hA.hu, Result.andThen_ok, run_szOf hA.hz, run_underlying hd2, Sem.run_pure, Bool.false_eq_true, if_false, hlen]
    rw [if_pos hroom]
    simp only [Bool.not_false, if_true, Sem.run_bind, hfirst, Result.andThen_ok]
    cases p with
    | none => simp
    | some q => simp

theorem run_append_grow {t1 t2 e : TypeId} {z y n len cap : Nat} {ty : TypeId} {p : Option Addr} {u : Value} {os vs : List Value} (hA : AppTy P t1 t2 e z y) (hlen : (Builtin.lenOf u).run P w = .ok n w)
    (hold : (Builtin.firstCells z len (.slice p len cap)).run P w.drew = .ok os.toArray w.drew) (hfirst : (Builtin.firstCells z n u).run P w.drew = .ok vs.toArray w.drew) (hroom : cap < len + n) (hmax : (len + n) * y ≤ 140737488355328) :
    ∃ (nc : Nat) (rest : Array Value), len + n ≤ nc ∧ rest.size = (nc - (len + n)) * z ∧
      (Builtin.append_ #[t1, t2] ty #[.slice p len cap, u]).run P w = .ok (.slice (some ⟨w.heap.size, 0, none⟩) (len + n) nc) (w.drew.alloc (.cells (os.toArray ++ vs.toArray ++ rest) e)) := by
  obtain ⟨d2, hd2⟩ := Option.isSome_iff_exists.1 hA.h2
  have hni := isInt_no hA.hi hd2
  obtain ⟨inf, hinf, hib⟩ := Option.map_eq_some_iff.1 hA.hy
  obtain ⟨zs, hzs, hzl⟩ := Option.map_eq_some_iff.1 hA.hzero
  obtain ⟨_, uz, hz2, hz3⟩ := zeroOf_ok hzs
  have huz : uz.cells.size = z := by rw [← hzl, ← hz2]; simp
  have hcapn := nextslicecap_le (len + n) cap hroom
  have hnoforce : Question.forced (.appendCap (len + n) cap e) = false := rfl
  have hcut : len + n ≤ Question.cut (.appendCap (len + n) cap e) (w.tape w.drawn (.appendCap (len + n) cap e)) := by
    simp only [Question.cut]; omega
  generalize hnc : Question.cut (.appendCap (len + n) cap e) (w.tape w.drawn (.appendCap (len + n) cap e)) = nc at hcut
  refine ⟨nc, Builtin.zeroCells uz.cells (nc - (len + n)), hcut, by simp [Builtin.zeroCells, huz], ?_⟩
  have hyp := hA.yp
  have hb : ¬ (Builtin.nextslicecap (len + n) cap * y > 2 ^ 48) := by
    have : Builtin.nextslicecap (len + n) cap * y ≤ 2 * (len + n) * y := Nat.mul_le_mul_right _ hcapn
    rw [Nat.mul_assoc] at this
    omega
  have hold' := hold
  have hfirst' := hfirst
  unfold World.drew at hold' hfirst'
  unfold Builtin.append_
  cases d2
  case int k => exact absurd rfl (hni k)
  all_goals
    simp only [List.getElem?_toArray, List.getElem?_cons_zero, List.getElem?_cons_succ, Sem.run_bind, run_underlying hA.hu, Result.andThen_ok, run_szOf hA.hz, run_underlying hd2, Sem.run_pure, Bool.false_eq_true, if_false, hlen]
    rw [if_neg (by omega)]
    simp only [typeInfo, Sem.run_bind, run_program, hinf, Result.andThen_ok, Sem.run_pure, hib]
    rw [if_neg (by intro h; rcases h.2 with h | h <;> omega)]
    simp only [Sem.run_bind, Sem.run_pure, Result.andThen_ok, run_program, hinf, hib]
    rw [if_neg hb]
    simp only [Sem.run_bind, run_choose, hnoforce, Bool.false_eq_true, if_false, Result.andThen_ok, hnc, run_askRoom]
    simp only [run_program, hinf, Result.andThen_ok, Sem.run_pure, hold', Bool.not_false, if_true, hfirst', hz3, newRow, Sem.run_bind, run_newObj, run_askRoom]
    rfl

end
end Go.AM
