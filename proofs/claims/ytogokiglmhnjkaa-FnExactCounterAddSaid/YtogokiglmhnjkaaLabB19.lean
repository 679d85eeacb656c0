/- From the reading of an argument, as the rows have it, to its picture. No condition. -/
import Derived.Test.YtogokiglmhnjkaaLabB22
import Derived.SizedLaws
import Derived.ChangeOld
import Derived.DataElems
set_option linter.unusedVariables false
set_option linter.unusedSimpArgs false
namespace Go.AM

inductive Sh where
  | bool
  | int (k : IntKind)
  | str
  | sl (bytes : Nat) (e : Sh)
  | st (fs : List Sh)

mutual
def Sh.size : Sh → Nat
  | .st fs => Sh.sizes fs
  | _ => 1
def Sh.sizes : List Sh → Nat
  | [] => 0
  | s :: l => s.size + Sh.sizes l
end

mutual
/-- The picture is of that shape, and of no greater bulk than the rows let in. -/
inductive Fits : Sh → I → Prop
  | bool (b : Bool) : Fits .bool (.s (.bool b))
  | int {k : IntKind} (n : Int) : (Lit.int k n).wf = true → Fits (.int k) (.s (.int k n))
  | str (s : ByteArray) : s.size ≤ reachBytes → Fits .str (.s (.string s))
  | sl {bytes : Nat} {e : Sh} {xs : List I} : xs.length * bytes ≤ reachBytes → (∀ x, x ∈ xs → Fits e x) → Fits (.sl bytes e) (.sl e.size xs)
  | st {fs : List Sh} {cs : List I} : FitsL fs cs → Fits (.st fs) (.agg cs)
inductive FitsL : List Sh → List I → Prop
  | nil : FitsL [] []
  | cons {s : Sh} {fs : List Sh} {x : I} {cs : List I} : Fits s x → FitsL fs cs → FitsL (s :: fs) (x.cells ++ cs)
end

/-- Offsets and sizes, one behind the other. -/
def offsOK (P : Program) : Nat → List Field → List Sh → Bool
  | _, [], [] => true
  | o, f :: fs, s :: ss => f.offset == o && P.cellsOf f.type == s.size && offsOK P (o + s.size) fs ss
  | _, _, _ => false

def shOf (P : Program) : Nat → TypeId → Option Sh
  | 0, _ => none
  | n + 1, t => match P.underlying t with
    | some .bool => some .bool
    | some (.int k) => some (.int k)
    | some .string => some .str
    | some (.slice e) => (shOf P n e).bind fun s => if P.cellsOf e = s.size ∧ 0 < s.size then some (.sl (P.bytesOf e) s) else none
    | some (.struct fs) => (fs.toList.mapM fun f => shOf P n f.type).bind fun ss => if offsOK P 0 fs.toList ss = true ∧ P.cellsOf t = Sh.sizes ss then some (.st ss) else none
    | _ => none

section
variable {H : Type} {enc : TypeId × Value → H} {P : Program} {w : World}

theorem cells?_reads {a : Addr} {n : Nat} {cs : List Value} (h : w.cells? 0 a n = some cs) : cs.length = n ∧ Reads w a cs := by
  unfold World.cells? at h
  rw [if_pos (Nat.zero_le _)] at h
  have hl := mapM_opt_length h
  simp at hl
  refine ⟨hl, ?_⟩
  intro j hj
  obtain ⟨y, h1, h2⟩ := mapM_opt_get h j j (List.getElem?_range (by omega))
  rw [List.getElem?_eq_getElem hj] at h1
  cases h1
  exact h2

theorem FitsL.len : ∀ {fs : List Sh} {cs : List I}, FitsL fs cs → True := fun _ => trivial

theorem RL.len {M : Nat → Prop} {xs : List I} {vs : List Value} (h : RL w M xs vs) : vs.length = xs.length := h.length

/-- The rows of a slice. -/
theorem rows_of {e : TypeId} {s : Sh} {fuel : Nat} {a : Addr} (hz : P.cellsOf e = s.size)
    (ih : ∀ cs d ps, DataW.trod enc P w 0 (fun _ => true) true fuel e cs = some (d, ps) → (d.weights P e).all (· ≤ reachBytes) = true → ∃ x, Fits s x ∧ RL w (fun _ => False) x.cells cs) :
    ∀ (l : List Nat) (k : Nat) (elems : List (DataW H × List MemPlace)), l = (List.range l.length).map (k + ·) →
      l.mapM (fun i => (w.cells? 0 (a.add (i * P.cellsOf e)) (P.cellsOf e)).bind (DataW.trod enc P w 0 (fun _ => true) true fuel e)) = some elems →
      (DataW.weightsAll P e (elems.map (·.1))).all (· ≤ reachBytes) = true →
      ∃ xs cs, xs.length = l.length ∧ (∀ x, x ∈ xs → Fits s x) ∧ RR w (fun _ => False) s.size xs cs ∧ Reads w (a.add (k * s.size)) cs ∧ cs.length = l.length * s.size
  | [], k, elems, hl, h, hw => ⟨[], [], rfl, by simp, .nil, fun j hj => by simp at hj, by simp⟩
  | i :: l, k, elems, hl, h, hw => by
    have hik : i = k := by
      simp [List.range_succ_eq_map] at hl
      exact hl.1
    have hl2 : l = (List.range l.length).map ((k + 1) + ·) := by
      simp [List.range_succ_eq_map] at hl
      have := hl.2
      conv => lhs; rw [this]
      apply List.map_congr_left
      intro x _
      simp only [Function.comp_apply]; omega
    subst hik
    simp only [List.mapM_cons, Option.bind_eq_bind] at h
    obtain ⟨⟨d, ps⟩, h1, h⟩ := Option.bind_eq_some_iff.1 h
    obtain ⟨rest, h2, h3⟩ := Option.bind_eq_some_iff.1 h
    simp at h3
    subst h3
    obtain ⟨cs0, h4, h5⟩ := Option.bind_eq_some_iff.1 h1
    simp only [List.map_cons, DataW.weightsAll, List.all_append, Bool.and_eq_true] at hw
    obtain ⟨x, f1, r1⟩ := ih cs0 d ps h5 hw.1
    obtain ⟨xs, cs, e1, e2, e3, e4, e5⟩ := rows_of hz ih l (i + 1) rest hl2 h2 hw.2
    obtain ⟨c1, c2⟩ := cells?_reads h4
    rw [hz] at c1 c2
    refine ⟨x :: xs, cs0 ++ cs, by simp [e1], ?_, .cons r1 c1 e3, ?_, ?_⟩
    · intro y hy
      rcases List.mem_cons.1 hy with rfl | hy
      · exact f1
      · exact e2 y hy
    · intro j hj
      by_cases hlt : j < cs0.length
      · rw [List.getElem_append_left hlt]
        exact c2 j hlt
      · rw [List.getElem_append_right (by omega)]
        have := e4 (j - cs0.length) (by simp at hj; omega)
        rw [Addr.add_add] at this ⊢
        rw [← this, Nat.add_mul, Nat.one_mul]
        congr 2
        omega
    · simp [c1, e5, Nat.add_mul]; omega

theorem fields_of {n fuel : Nat}
    (ih : ∀ t s, shOf P n t = some s → ∀ cs d ps, DataW.trod enc P w 0 (fun _ => true) true fuel t cs = some (d, ps) → (d.weights P t).all (· ≤ reachBytes) = true → ∃ x, Fits s x ∧ RL w (fun _ => False) x.cells cs) :
    ∀ (fs : List Field) (ss : List Sh) (o : Nat) (cs : List Value) (xs : List (DataW H × List MemPlace)), fs.mapM (fun f => shOf P n f.type) = some ss → offsOK P o fs ss = true → cs.length = o + Sh.sizes ss →
      fs.mapM (fun f => DataW.trod enc P w 0 (fun _ => true) true fuel f.type ((cs.drop f.offset).take (P.cellsOf f.type))) = some xs → (DataW.weightsEach P (fs.map (·.type)) (xs.map (·.1))).all (· ≤ reachBytes) = true →
      ∃ is, FitsL ss is ∧ RL w (fun _ => False) is (cs.drop o)
  | [], ss, o, cs, xs, h1, h2, h3, h4, h5 => by
    simp at h1
    subst h1
    refine ⟨[], .nil, ?_⟩
    rw [List.drop_eq_nil_of_le (by simp [Sh.sizes] at h3; omega)]
    exact .nil
  | f :: fs, ss, o, cs, xs, h1, h2, h3, h4, h5 => by
    simp only [List.mapM_cons, Option.bind_eq_bind] at h1 h4
    obtain ⟨s, a1, h1⟩ := Option.bind_eq_some_iff.1 h1
    obtain ⟨ss', a2, a3⟩ := Option.bind_eq_some_iff.1 h1
    simp at a3
    subst a3
    obtain ⟨⟨d, ps⟩, b1, h4⟩ := Option.bind_eq_some_iff.1 h4
    obtain ⟨rest, b2, b3⟩ := Option.bind_eq_some_iff.1 h4
    simp at b3
    subst b3
    simp only [offsOK, Bool.and_eq_true, beq_iff_eq] at h2
    obtain ⟨⟨o1, o2⟩, o3⟩ := h2
    simp only [List.map_cons, DataW.weightsEach, List.all_append, Bool.and_eq_true] at h5
    simp only [Sh.sizes] at h3
    obtain ⟨x, f1, r1⟩ := ih _ s a1 _ d ps b1 h5.1
    obtain ⟨is, f2, r2⟩ := fields_of ih fs ss' (o + s.size) cs rest a2 o3 (by omega) b2 h5.2
    refine ⟨x.cells ++ is, .cons f1 f2, ?_⟩
    rw [o1, o2] at r1
    have := r1.append r2
    rw [← List.drop_drop, List.take_append_drop] at this
    exact this

theorem trod_fits : ∀ (n : Nat) (t : TypeId) (s : Sh), shOf P n t = some s → ∀ (fuel : Nat) (cs : List Value) (d : DataW H) (ps : List MemPlace), DataW.trod enc P w 0 (fun _ => true) true fuel t cs = some (d, ps) →
    (d.weights P t).all (· ≤ reachBytes) = true → ∃ x, Fits s x ∧ RL w (fun _ => False) x.cells cs
  | 0, t, s, h, _, _, _, _, _, _ => by simp [shOf] at h
  | n + 1, t, s, h, 0, cs, d, ps, ht, hw => by simp [DataW.trod] at ht
  | n + 1, t, s, h, fuel + 1, cs, d, ps, ht, hw => by
    have ih := fun t s hs => trod_fits n t s hs fuel
    have hlt := DataW.trod_lt (fuel + 1) t cs (d, ps) ht
    simp only [shOf] at h
    unfold DataW.trod at ht
    split at h
    · rename_i hu
      cases h
      simp only [hu] at ht
      split at ht <;> simp_all
      rename_i b
      exact ⟨_, .bool b, .cons (.s rfl) .nil⟩
    · rename_i k hu
      cases h
      simp only [hu] at ht
      split at ht <;> simp_all
      rename_i k1 k2 m _
      exact ⟨_, .int m ht.1.2, .cons (.s rfl) .nil⟩
    · rename_i hu
      cases h
      simp only [hu] at ht
      split at ht <;> simp_all
      rename_i b
      obtain ⟨h1, rfl, rfl⟩ := ht
      refine ⟨_, .str b ?_, .cons (.s rfl) .nil⟩
      have := hw b.data.toList.length (by simp [DataW.weights])
      simpa using this
    · rename_i e hu
      obtain ⟨s0, h1, h⟩ := Option.bind_eq_some_iff.1 h
      split at h
      · rename_i hc
        cases h
        simp only [hu] at ht
        split at ht
        all_goals (try (exfalso; simp_all; done))
        · exact ⟨_, .sl (xs := []) (by simp) (by simp), .cons .sl0 .nil⟩
        · rename_i e' a len cap he
          cases he
          split at ht
          · rename_i hb
            obtain ⟨elems, g1, ht⟩ := Option.bind_eq_some_iff.1 ht
            obtain ⟨rest, g2, ht⟩ := Option.map_eq_some_iff.1 ht
            cases ht
            simp only [DataW.weights, hu, List.all_cons, List.all_append, Bool.and_eq_true, decide_eq_true_eq] at hw
            have hl := mapM_opt_length g1
            simp at hl
            obtain ⟨xs, cs0, r1, r2, r3, r4, r5⟩ := rows_of (a := a) hc.1 (fun cs d ps => ih e s0 h1 cs d ps) (List.range len) 0 elems (by simp) g1 hw.2.1
            simp at r1 r4 r5
            rw [Addr.add_zero'] at r4
            by_cases h0 : len = 0
            · subst h0
              exact ⟨_, .sl (xs := []) (by simp) (by simp), .cons .sl0 .nil⟩
            · have hfit : Fits (.sl (P.bytesOf e) s0) (.sl s0.size xs) := by
                refine .sl ?_ r2
                have := hw.1
                simp [hl] at this
                rw [r1]
                exact Nat.le_trans (Nat.mul_le_mul_right _ (Nat.le_add_right _ _)) this
              have hblk : a.block < w.heap.size := by
                refine hlt (.cell a.block (a.off + 0)) ?_
                simp only [MemPlace.row, List.mem_append, List.mem_map, List.mem_range]
                left
                refine ⟨0, ?_, rfl⟩
                rw [hl, hc.1]
                exact Nat.mul_pos (by omega) hc.2
              refine ⟨_, hfit, .cons ?_ .nil⟩
              have := RI.sl (w := w) (M := fun _ => False) (z := s0.size) (xs := xs) (a := a) (cap := cap) (cs := cs0) (by intro e; rw [e] at r1; simp at r1; omega) (by omega) (fun h => h) hblk r4 r3
              rwa [r1] at this
          · cases ht
      · cases h
    · rename_i fs hu
      obtain ⟨ss, h1, h⟩ := Option.bind_eq_some_iff.1 h
      split at h
      · rename_i hc
        cases h
        simp only [hu] at ht
        split at ht
        all_goals (try (exfalso; simp_all; done))
        rename_i hlen
        obtain ⟨xs, g1, ht⟩ := Option.map_eq_some_iff.1 ht
        cases ht
        simp only [DataW.weights, hu] at hw
        obtain ⟨is, f1, r1⟩ := fields_of (fun t s hs cs d ps => ih t s hs cs d ps) fs.toList ss 0 cs xs h1 hc.1 (by rw [hlen, hc.2]; simp) g1 hw
        exact ⟨_, .st f1, by simpa [I.cells] using r1⟩
      · cases h
    · cases h

end
end Go.AM
