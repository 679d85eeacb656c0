/- More operations that make no block: parts of structs, slicing, lengths, bytes to strings. No condition. -/
import Derived.Test.YtogokiglmhnjkaaLabB8
set_option linter.unusedVariables false
set_option linter.unusedSimpArgs false
namespace Go.AM

section
variable {P : Program} {base : Nat} {X : Nat → Prop} {o : Oper} {a : Act} {w : World} {H H' : Heap} {G : List Nat} {v : V} {t : Nat → V}

theorem aggV_ok {x : V} {u : Value} (h : RV w base (Mof X H G) H G x u) (hx : isAggV x = true) : ∃ cs : Array Value, u = .agg cs ∧ RVL w base (Mof X H G) H G x.cells cs.toList := by
  cases h with
  | i hi =>
    cases hi with
    | agg hl => exact ⟨_, rfl, RL.toV hl⟩
    | _ => simp [isAggV] at hx
  | agg hl => exact ⟨_, rfl, hl⟩
  | _ => simp [isAggV] at hx

theorem run_part {ty : TypeId} {z : Nat} {ag : Bool} (hz : szOf P ty = some z) (ha : agOf P ty = some ag) (w : World) (cs : Array Value) (off : Nat) (hle : off + (if ag then z else 1) ≤ cs.size) :
    (part ty cs off).run P w = .ok (if ag then .agg ((cs.toList.drop off).take z).toArray else ((cs.toList.drop off).take 1).getD 0 undef) w := by
  unfold part
  simp only [Sem.run_bind, run_agOf ha, Result.andThen_ok]
  cases ag with
  | true =>
    simp only [if_true] at hle ⊢
    simp only [Sem.run_bind, run_szOf hz, Result.andThen_ok, Sem.run_pure]
    congr 2
    apply Array.ext'
    simp [Array.toList_extract, List.extract_eq_take_drop]
  | false =>
    simp only [Bool.false_eq_true, if_false] at hle ⊢
    have hlt : off < cs.size := by omega
    simp [hlt, List.getD_eq_getElem?_getD]

theorem ok_field {s : TypeId} {fields : Array Field} {k : Nat} {fd : Field} {z : Nat} {ag : Bool} {x : Operand} (hS : SimH base X w H G) (hT : TV w base (Mof X H G) H G t a.tmps) (ho : o.op = .field s x k)
    (hu : P.underlying s = some (.struct fields)) (hf : fields[k]? = some fd) (hz : szOf P fd.type = some z) (ha : agOf P fd.type = some ag)
    (hc : fd.offset + (if ag then z else 1) ≤ (St.ev ⟨t, H⟩ x).cells.length) (hx : isAggV (St.ev ⟨t, H⟩ x) = true)
    (hv : rowV ag (((St.ev ⟨t, H⟩ x).cells.drop fd.offset).take (if ag then z else 1)) = some v) : StepOK P base X o a w H G v H := by
  obtain ⟨cs, hu2, hl⟩ := aggV_ok (ev_ok (h := H) hT x) hx
  have hlen : cs.size = (St.ev ⟨t, H⟩ x).cells.length := by have := hl.length; simpa using this
  have hl2 := (hl.drop fd.offset).take (if ag then z else 1)
  have h3 := rowV_ok (z := z) hl2 (by simp; omega) hv
  refine StepOK.value hS ?_ h3
  simp only [execOp, ho, hu2, Instr.field, Sem.run_bind, run_underlying hu, Result.andThen_ok, hf, asAgg, Sem.run_pure]
  rw [run_part hz ha w cs fd.offset (by omega)]
  cases ag <;> rfl

theorem ok_idxV {ty e : TypeId} {n z : Nat} {ag : Bool} {x i : Operand} {k : Int} (hS : SimH base X w H G) (hT : TV w base (Mof X H G) H G t a.tmps) (ho : o.op = .index ty x i)
    (hu : P.underlying ty = some (.array n e)) (hz : szOf P e = some z) (ha : agOf P e = some ag) (hz1 : ag = true ∨ z = 1) (hk : intV (St.ev ⟨t, H⟩ i) = some k) (h0 : 0 ≤ k) (h1 : k < n)
    (hc : (St.ev ⟨t, H⟩ x).cells.length = n * z) (hx : isAggV (St.ev ⟨t, H⟩ x) = true)
    (hv : rowV ag (((St.ev ⟨t, H⟩ x).cells.drop (k.toNat * z)).take z) = some v) : StepOK P base X o a w H G v H := by
  obtain ⟨cs, hu2, hl⟩ := aggV_ok (ev_ok (h := H) hT x) hx
  obtain ⟨ki, hi⟩ := intV_ok (ev_ok (h := H) hT i) hk
  have hlen : cs.size = (St.ev ⟨t, H⟩ x).cells.length := by have := hl.length; simpa using this
  have hmul : (k.toNat + 1) * z ≤ n * z := Nat.mul_le_mul_right _ (by omega)
  rw [Nat.add_mul, Nat.one_mul] at hmul
  have hzz : (if ag then z else 1) = z := by
    cases ag with
    | true => rfl
    | false => rcases hz1 with h | h <;> simp_all
  have hl2 := (hl.drop (k.toNat * z)).take z
  have h3 := rowV_ok (z := z) (by rw [hzz] at *; exact hl2) (by simp; omega) hv
  refine StepOK.value hS ?_ h3
  simp only [execOp, ho, hu2, hi, Instr.index, asIntOf, Sem.run_bind, Sem.run_pure, Result.andThen_ok, run_underlying hu]
  rw [if_pos ⟨h0, h1⟩]
  simp only [Sem.run_bind, run_szOf hz, Result.andThen_ok]
  rw [run_part hz ha w cs (k.toNat * z) (by rw [hzz]; omega)]
  cases ag with
  | true => rfl
  | false =>
    have : z = 1 := by rcases hz1 with h | h <;> simp_all
    subst this
    rfl

theorem bounds_ok {lo hi : Option Operand} {len l h : Nat} (hT : TV w base (Mof X H G) H G t a.tmps) (hb : bounds ⟨t, H⟩ lo hi len = some (l, h)) (cap : Nat) (hcap : len ≤ cap) (isS : Bool) :
    l ≤ h ∧ h ≤ len ∧ (Instr.sliceBounds isS len cap (lo.map a.eval) (hi.map a.eval) none).run P w = .ok (l, h, cap) w := by
  unfold bounds at hb
  obtain ⟨h1, hh, hb⟩ := Option.bind_eq_some_iff.1 hb
  obtain ⟨l1, hl, hb⟩ := Option.map_eq_some_iff.1 hb
  cases hb
  unfold boundHi at hh
  unfold boundLo at hl
  have eh : h ≤ len ∧ ∀ w, (match hi.map a.eval with | some v => Instr.sliceBound v cap (if isS then .sliceAcap else .sliceAlen) | none => pure len : Sem Nat).run P w = .ok h w := by
    cases hi with
    | none => simp at hh; subst hh; exact ⟨Nat.le_refl _, fun w => by simp⟩
    | some oh =>
      obtain ⟨n, hn, hh⟩ := Option.bind_eq_some_iff.1 hh
      obtain ⟨k, hk⟩ := intV_ok (ev_ok (h := H) hT oh) hn
      split at hh
      · rename_i hc
        cases hh
        refine ⟨by omega, fun w => ?_⟩
        have : n ≤ cap := by omega
        simp [hk, Instr.sliceBound, asIntOf, hc.1, this]
      · cases hh
  have el : l ≤ h ∧ ∀ w, (match lo.map a.eval with | some v => Instr.sliceBound v h .sliceB | none => pure 0 : Sem Nat).run P w = .ok l w := by
    cases lo with
    | none => simp at hl; subst hl; exact ⟨Nat.zero_le _, fun w => by simp⟩
    | some ol =>
      obtain ⟨n, hn, hl⟩ := Option.bind_eq_some_iff.1 hl
      obtain ⟨k, hk⟩ := intV_ok (ev_ok (h := H) hT ol) hn
      split at hl
      · rename_i hc
        cases hl
        refine ⟨by omega, fun w => ?_⟩
        simp [hk, Instr.sliceBound, asIntOf, hc.1, hc.2]
      · cases hl
  refine ⟨el.1, eh.1, ?_⟩
  unfold Instr.sliceBounds
  have eh2 := eh.2 w
  have el2 := el.2 w
  cases hhi : hi.map a.eval <;> cases hlo : lo.map a.eval <;> rw [hhi] at eh2 <;> rw [hlo] at el2 <;> simp at eh2 el2 ⊢ <;> simp [eh2, el2]

theorem run_sliceAt {ty e : TypeId} {z : Nat} (hu : P.underlying ty = some (.slice e)) (hz : szOf P e = some z) {lo hi : Option Operand} {len cap l h : Nat} {p : Option Addr}
    (hb : (Instr.sliceBounds true len cap (lo.map a.eval) (hi.map a.eval) none).run P w = .ok (l, h, cap) w) :
    (Instr.sliceAt ty (.slice p len cap) (lo.map a.eval) (hi.map a.eval) none).run P w = .ok (.slice (if cap = l then p else p.map (·.add (l * z))) (h - l) (cap - l)) w := by
  unfold Instr.sliceAt
  simp only [Sem.run_bind, run_underlying hu, Result.andThen_ok]
  unfold Instr.slice
  simp only [Sem.run_bind, run_underlying hu, Result.andThen_ok, hb, run_szOf hz, Sem.run_pure]

theorem ok_slice {ty e : TypeId} {z : Nat} {x : Operand} {lo hi : Option Operand} (hS : SimH base X w H G) (hT : TV w base (Mof X H G) H G t a.tmps) (ho : o.op = .slice ty x lo hi none)
    (hu : P.underlying ty = some (.slice e)) (hz : szOf P e = some z)
    (hv : stepSlice z (bounds ⟨t, H⟩ lo hi) (St.ev ⟨t, H⟩ x) = some v) : StepOK P base X o a w H G v H := by
  have h := ev_ok (h := H) hT x
  unfold stepSlice at hv
  split at hv
  · rename_i b g off z' ag len he
    obtain ⟨⟨l, hh⟩, hb, hv2⟩ := Option.bind_eq_some_iff.1 hv
    simp only at hv2
    split at hv2
    · rename_i hzz
      subst hzz
      cases hv2
      rw [he] at h
      generalize hu2 : a.eval x = u at h
      cases h with
      | hnil hr hcn =>
        obtain ⟨c1, c2, c3⟩ := bounds_ok (P := P) hT hb 0 (Nat.le_refl _) true
        have e1 : hh = 0 := by omega
        have e2 : l = 0 := by omega
        subst e1
        subst e2
        refine StepOK.value (x := .slice none 0 0) hS ?_ ?_
        · simp only [execOp, ho, hu2, Sem.run_bind]
          have := run_sliceAt (P := P) (p := none) hu hz c3
          simp only [Option.map_none] at this ⊢
          rw [this]; rfl
        · have := RV.hnil (w := w) (base := base) (M := Mof X H G) (G := G) (z := z') (ag := ag) hr hcn
          simpa using this
      | hsl hr hn hzp hle hval =>
        rename_i cap p
        obtain ⟨c1, c2, c3⟩ := bounds_ok (P := P) hT hb cap hle true
        refine StepOK.value (x := .slice (if cap = l then some p else (some p).map (·.add (l * z'))) (hh - l) (cap - l)) hS ?_ ?_
        · simp only [execOp, ho, hu2, Sem.run_bind]
          have := run_sliceAt (P := P) (p := some p) hu hz c3
          simp only [Option.map_none] at this ⊢
          rw [this]; rfl
        · have hp : (if cap = l then some p else (some p).map (·.add (l * z'))) = some (if cap = l then p else p.add (l * z')) := by split <;> rfl
          rw [hp]
          refine .hsl hr hn hzp (by omega) ?_
          intro cs hc
          obtain ⟨d1, d2, n, d3, d4⟩ := hval cs hc
          have m1 : (hh - l) * z' + l * z' = hh * z' := by rw [← Nat.add_mul]; congr 1; omega
          have m2 : hh * z' ≤ len * z' := Nat.mul_le_mul_right _ c2
          have m3 : (cap - l) * z' + l * z' = cap * z' := by rw [← Nat.add_mul]; congr 1; omega
          refine ⟨?_, by omega, n, by omega, d4⟩
          intro hcase
          by_cases hcl : cap = l
          · rw [if_pos hcl]
            rcases hcase with hcase | hcase
            · omega
            · have : off = 0 := by omega
              rw [d1 (.inr this)]
              congr 1; omega
          · rw [if_neg hcl]
            have : 0 < len ∨ off = 0 := by
              rcases hcase with hcase | hcase
              · left; omega
              · right; omega
            rw [d1 this, Addr.add_lit]
    · split at hv2
      · rename_i hc0
        obtain ⟨rfl, rfl, rfl, rfl⟩ := hc0
        cases hv2
        rw [he] at h
        generalize hu2 : a.eval x = u at h
        cases h with
        | hsl hr hn hzp => exact absurd hzp (by omega)
        | hnil hr hcn =>
          obtain ⟨c1, c2, c3⟩ := bounds_ok (P := P) hT hb 0 (Nat.le_refl _) true
          have e1 : hh = 0 := by omega
          have e2 : l = 0 := by omega
          subst e1
          subst e2
          refine StepOK.value (x := .slice none 0 0) hS ?_ (.hnil hr hcn)
          simp only [execOp, ho, hu2, Sem.run_bind]
          have := run_sliceAt (P := P) (p := none) hu hz c3
          simp only [Option.map_none] at this ⊢
          rw [this]; rfl
      · cases hv2
  · rename_i f z' xs he
    obtain ⟨⟨l, hh⟩, hb, hv2⟩ := Option.bind_eq_some_iff.1 hv
    simp only at hv2
    split at hv2
    · rename_i hzz
      subst hzz
      cases hv2
      rw [he] at h
      generalize hu2 : a.eval x = u at h
      cases h with
      | i hi2 =>
        have hform : ∃ p cap, u = .slice p xs.length cap ∧ xs.length ≤ cap := by
          cases hi2 with
          | sl0 => exact ⟨_, _, rfl, Nat.zero_le _⟩
          | sl _ hcap => exact ⟨_, _, rfl, hcap⟩
        obtain ⟨p, cap, rfl, hle⟩ := hform
        obtain ⟨c1, c2, c3⟩ := bounds_ok (P := P) hT hb cap hle true
        refine StepOK.value (x := .slice (if cap = l then p else p.map (·.add (l * z'))) (hh - l) (cap - l)) hS ?_ (.i ?_)
        · simp only [execOp, ho, hu2, Sem.run_bind]
          have := run_sliceAt (P := P) (p := p) hu hz c3
          simp only [Option.map_none] at this ⊢
          rw [this]; rfl
        · have hlen : ((xs.drop l).take (hh - l)).length = hh - l := by simp; omega
          by_cases h0 : hh - l = 0
          · rw [h0, List.take_zero]
            exact .sl0
          · cases hi2 with
            | sl0 => simp at c2; omega
            | sl hne hcap hm hblk hr hl =>
              rename_i q cs
              have hlc := hl.length
              have hcl : cap ≠ l := by omega
              rw [if_neg hcl]
              have := RI.sl (w := w) (M := Mof X H G) (z := z') (xs := (xs.drop l).take (hh - l)) (a := q.add (l * z')) (cap := cap - l) (cs := (cs.drop (l * z')).take ((hh - l) * z'))
                (by intro e; rw [e] at hlen; simp at hlen; omega) (by omega) (by rw [add_block]; exact hm) (by rw [add_block]; exact hblk)
                (hr.sub' _ _ (by rw [hlc, ← Nat.add_mul]; exact Nat.mul_le_mul_right _ (by omega))) ((hl.drop l).take (hh - l))
              rw [hlen] at this
              exact this
    · cases hv2
  · cases hv

theorem run_sliceAtA {ty e : TypeId} {n z : Nat} (hu : P.underlying ty = some (.array n e)) (hz : szOf P e = some z) {lo hi : Option Operand} {l h : Nat} {p : Addr}
    (hb : (Instr.sliceBounds false n n (lo.map a.eval) (hi.map a.eval) none).run P w = .ok (l, h, n) w) :
    (Instr.sliceAt ty (.pointer (some p)) (lo.map a.eval) (hi.map a.eval) none).run P w = .ok (.slice (some (if n = l then p else p.add (l * z))) (h - l) (n - l)) w := by
  unfold Instr.sliceAt
  simp only [Sem.run_bind, run_underlying hu, Result.andThen_ok, Instr.sureAddr, Sem.run_pure, hb, run_szOf hz]

theorem ok_sliceA {ty e : TypeId} {n z : Nat} {ag : Bool} {x : Operand} {lo hi : Option Operand} (hS : SimH base X w H G) (hT : TV w base (Mof X H G) H G t a.tmps) (ho : o.op = .slice ty x lo hi none)
    (hu : P.underlying ty = some (.array n e)) (hz : szOf P e = some z) (hzp : 0 < z)
    (hv : stepSliceA n z ag (bounds ⟨t, H⟩ lo hi) H (St.ev ⟨t, H⟩ x) = some v) : StepOK P base X o a w H G v H := by
  have h := ev_ok (h := H) hT x
  unfold stepSliceA at hv
  split at hv
  · rename_i b g off he
    obtain ⟨⟨l, hh⟩, hb, hv2⟩ := Option.bind_eq_some_iff.1 hv
    obtain ⟨cs, hcs, hv3⟩ := Option.bind_eq_some_iff.1 hv2
    simp only at hv3
    split at hv3
    · rename_i hle
      cases hv3
      rw [he] at h
      generalize hu2 : a.eval x = u at h
      cases h with
      | ptr hr hn hval =>
        rename_i p
        replace hcs := getCells_not hcs hn
        obtain rfl := hval cs hcs
        obtain ⟨c1, c2, c3⟩ := bounds_ok (P := P) hT hb n (Nat.le_refl _) false
        obtain ⟨arr, ty', g1, e1, e2, e3, e4, e5, e6⟩ := hS.at hcs
        refine StepOK.value (x := .slice (some (if n = l then ⟨G.getD b 0, off, none⟩ else Addr.add ⟨G.getD b 0, off, none⟩ (l * z))) (hh - l) (n - l)) hS ?_ (.hsl hr hn hzp (by omega) ?_)
        · simp only [execOp, ho, hu2, Sem.run_bind]
          have := run_sliceAtA (P := P) (p := ⟨G.getD b 0, off, none⟩) hu hz c3
          simp only [Option.map_none] at this ⊢
          rw [this]; rfl
        · intro cs' hc
          have m1 : (hh - l) * z + l * z = hh * z := by rw [← Nat.add_mul]; congr 1; omega
          have m2 : hh * z ≤ n * z := Nat.mul_le_mul_right _ c2
          have m3 : (n - l) * z + l * z = n * z := by rw [← Nat.add_mul]; congr 1; omega
          refine ⟨?_, by omega, arr.size, by omega, by unfold blockSize; rw [e1]⟩
          intro hcase
          by_cases hcl : n = l
          · rw [if_pos hcl]
            rcases hcase with hcase | hcase
            · omega
            · congr 1; omega
          · rw [if_neg hcl, Addr.add_lit]
    · cases hv3
  · cases hv

/-- The length that a value shows. -/
theorem lenV_ok {x : V} {u : Value} {n : Nat} (h : RV w base (Mof X H G) H G x u) (hn : lenV x = some n) : (∃ p cap, u = .slice p n cap) ∨ ∃ s, u = .string s ∧ s.size = n := by
  unfold lenV at hn
  split at hn
  · cases hn; cases h <;> exact .inl ⟨_, _, rfl⟩
  · cases hn
    cases h with
    | i hi => cases hi <;> exact .inl ⟨_, _, rfl⟩
  · cases hn
    cases h with
    | i hi => cases hi; exact .inr ⟨_, rfl, rfl⟩
  · cases hn
    cases h with
    | i hi => cases hi; exact .inl ⟨_, _, rfl⟩
  · cases hn

theorem lenS_ok {x : V} {u : Value} {n : Nat} (h : RV w base (Mof X H G) H G x u) (hn : lenS x = some n) : ∃ p cap, u = .slice p n cap ∧ n ≤ cap := by
  unfold lenS at hn
  split at hn
  · cases hn
    cases h with
    | hsl _ _ _ hl _ => exact ⟨_, _, rfl, hl⟩
    | hnil => exact ⟨_, _, rfl, Nat.le_refl _⟩
  · cases hn
    cases h with
    | i hi =>
      cases hi with
      | sl0 => exact ⟨_, _, rfl, Nat.zero_le _⟩
      | sl _ hc => exact ⟨_, _, rfl, hc⟩
  · cases hn
    cases h with
    | i hi => cases hi; exact ⟨_, _, rfl, Nat.le_refl _⟩
  · cases hn

theorem ok_len {ty e : TypeId} {c : Call} {x : Operand} {n : Nat} (hS : SimH base X w H G) (hT : TV w base (Mof X H G) H G t a.tmps) (ho : o.op = .call c) (hc : c.callee = .builtin .len) (ha : c.args.toList = [x]) (hat : c.argTypes.toList = [ty])
    (hu : P.underlying ty = some (.slice e)) (hn : lenS (St.ev ⟨t, H⟩ x) = some n) : StepOK P base X o a w H G (.i (.s (.int .i64 n))) H := by
  have ha' : c.args = #[x] := by apply Array.ext'; simpa using ha
  have hat' : c.argTypes = #[ty] := by apply Array.ext'; simpa using hat
  obtain ⟨p, cap, hp, _⟩ := lenS_ok (ev_ok (h := H) hT x) hn
  refine StepOK.value (x := .int .i64 n) hS ?_ (.i (.s rfl))
  simp [execOp, ho, resolve, hc, ha', hat', invoke, builtin, hp, Builtin.len_, run_underlying hu, goInt]

theorem bytesOf_ok : ∀ {ys : List V} {vs : List Value} {ns : List Int}, RVL w base (Mof X H G) H G ys vs → bytesOf ys = some ns → vs = ns.map (Value.int .u8)
  | _, _, _, .nil, h => by simp [bytesOf] at h; subst h; rfl
  | _, _, ns, .cons (x := y) (xs := ys) a b, h => by
    unfold bytesOf at h
    split at h
    · rename_i he; simp at he
    · rename_i f n rest he
      obtain ⟨h1, h2⟩ := List.cons.inj he
      subst h1 h2
      obtain ⟨ms, hm, rfl⟩ := Option.map_eq_some_iff.1 h
      cases a with
      | i hi =>
        cases hi
        rw [bytesOf_ok b hm]
        rfl
    · cases h

/-- What a slice value's cells read as. -/
theorem srcCells_ok {x : V} {p : Option Addr} {n cap : Nat} {ys : List V} {z : Nat} (hS : SimH base X w H G) (h : RV w base (Mof X H G) H G x (.slice p n cap)) (hc : srcCells H x = some ys) (hl : ys.length = n * z) :
    ∃ vs, vs.length = ys.length ∧ RVL w base (Mof X H G) H G ys vs ∧ (0 < ys.length → ∃ q, p = some q ∧ Reads w q vs) ∧ (p = none → ys = []) := by
  unfold srcCells at hc
  split at hc
  · rename_i b g off z' ag len
    obtain ⟨cs, hcs, rfl⟩ := Option.map_eq_some_iff.1 hc
    cases h with
    | hnil hr hcn =>
      rcases getCells_or hcs with hcs | ⟨_, _, rfl⟩
      · rw [hcn] at hcs; cases hcs
      · exact ⟨[], by simp, by simpa using RVL.nil, fun hp => by simp at hp, fun _ => by simp⟩
    | hsl hr hn hzp hle hval =>
      rename_i q
      replace hcs := getCells_not hcs hn
      obtain ⟨d1, d2, n', d3, d4⟩ := hval cs hcs
      obtain ⟨arr, ty', g1, e1, e2, e3, e4, e5, e6⟩ := hS.at hcs
      have hlen : ((cs.drop off).take (n * z')).length = n * z' := by simp; omega
      refine ⟨((arr.toList.take cs.length).drop off).take (n * z'), by simp; omega, (e4.drop off).take _, ?_, fun e => by cases e⟩
      intro hp
      rw [hlen] at hp
      have hn0 : 0 < n := Nat.pos_of_ne_zero (fun e => by rw [e] at hp; simp at hp)
      rw [d1 (.inl hn0)]
      refine ⟨_, rfl, ?_⟩
      have := Reads.of_block (off := off) (n := n * z') e1 (by omega)
      rw [List.drop_take, List.take_take, Nat.min_eq_left (by omega)]
      exact this
  · rename_i f z' xs
    cases hc
    cases h with
    | i hi =>
      cases hi with
      | sl0 => exact ⟨[], rfl, .nil, fun hp => by simp at hp, fun _ => rfl⟩
      | sl hne hcap hm hb hr hll =>
        rename_i q cs
        have hflat : ∀ {zs : List I} {ds : List Value}, RR w (Mof X H G) z' zs ds → RVL w base (Mof X H G) H G ((zs.flatMap I.cells).map .i) ds := by
          intro zs ds hrr
          induction zs generalizing ds with
          | nil => cases hrr; exact .nil
          | cons y ys ih =>
            cases hrr with
            | cons a1 a2 a3 =>
              rw [List.flatMap_cons, List.map_append]
              exact (RL.toV a1).append (ih a3)
        have h2 := hflat hll
        exact ⟨cs, h2.length, h2, fun _ => ⟨q, rfl, hr⟩, fun e => by cases e⟩
  · rename_i f s
    cases h with
    | i hi => cases hi
  · cases hc
    cases h with
    | i hi => cases hi; exact ⟨[], rfl, .nil, fun hp => by simp at hp, fun _ => rfl⟩
  · cases hc

theorem ok_b2s {s d e : TypeId} {x : Operand} {ys : List V} {n : Nat} {ns : List Int} (hS : SimH base X w H G) (hT : TV w base (Mof X H G) H G t a.tmps) (ho : o.op = .convert s d x)
    (hs : P.underlying s = some (.slice e)) (he : P.underlying e = some (.int .u8)) (hd : P.underlying d = some .string)
    (hc : srcCells H (St.ev ⟨t, H⟩ x) = some ys) (hn : lenS (St.ev ⟨t, H⟩ x) = some n) (hb : bytesOf ys = some ns) (hl : ns.length = n) : StepOK P base X o a w H G (.i (.s (.string (strOfNums ns)))) H := by
  have hx := ev_ok (h := H) hT x
  obtain ⟨p, cap, hp, hcap⟩ := lenS_ok hx hn
  rw [hp] at hx
  have hyl : ys.length = ns.length := by
    have : ∀ {ys : List V} {ns : List Int}, bytesOf ys = some ns → ys.length = ns.length := by
      intro ys
      induction ys with
      | nil => intro ns h; simp [bytesOf] at h; subst h; rfl
      | cons y ys ih =>
        intro ns h
        unfold bytesOf at h
        split at h
        · rename_i he; simp at he
        · rename_i f n rest he
          obtain ⟨h1, h2⟩ := List.cons.inj he
          subst h1 h2
          obtain ⟨ms, hm, rfl⟩ := Option.map_eq_some_iff.1 h
          simp [ih hm]
        · cases h
    exact this hb
  obtain ⟨vs, h1, h2, h3, h4⟩ := srcCells_ok (z := 1) hS hx hc (by omega)
  have hvs := bytesOf_ok h2 hb
  refine StepOK.value (x := .string (strOfNums ns)) hS ?_ (.i (.s rfl))
  simp only [execOp, ho, hp, Sem.run_bind]
  cases p with
  | none =>
    have := h4 rfl
    subst this
    have : ns = [] := by cases ns with | nil => rfl | cons _ _ => simp at hyl
    subst this
    rw [run_convert_bytes_nil w s e hs he n cap d hd]
    rfl
  | some q =>
    have hload : (loadCells q n).run P w = .ok (ns.map (Value.int .u8)).toArray w := by
      by_cases h0 : 0 < ys.length
      · obtain ⟨q', hq, hr⟩ := h3 h0
        cases hq
        exact run_loadCells P w q _ n (by simp; omega) (hvs ▸ hr)
      · have : ns = [] := by cases ns with | nil => rfl | cons _ _ => simp at hyl; omega
        subst this
        have : n = 0 := by simpa using hl.symm
        subst this
        simp [loadCells, loadCellsFrom]
    rw [run_convert_bytes_string w s d e _ n cap hs he hd, run_bytesToString w q n cap ns hload, foldl_push_bytes]
    simp [strOfNums, ByteArray.empty, ByteArray.emptyWithCapacity]
    rfl

theorem ok_clo {f : Nat} {first caps : Array Operand} (hS : SimH base X w H G) (hT : TV w base (Mof X H G) H G t a.tmps) (ho : o.op = .makeFunc (.func f) first caps) (hf : first.isEmpty = true) : StepOK P base X o a w H G (.clo f (caps.toList.map (St.ev ⟨t, H⟩))) H := by
  have : first = #[] := by simpa using hf
  subst this
  refine StepOK.value (x := .func (.func f) #[] (caps.map a.eval)) hS ?_ (.clo ?_)
  · simp [execOp, ho, Instr.makeFunc]
  · have := evs_ok (h := H) hT caps.toList
    simpa using this

theorem ok_ifc {ty : TypeId} {x : Operand} (hS : SimH base X w H G) (hT : TV w base (Mof X H G) H G t a.tmps) (ho : o.op = .makeInterface ty x) (hi : isIface P ty = false) : StepOK P base X o a w H G (.ifc ty (St.ev ⟨t, H⟩ x)) H := by
  refine StepOK.value (x := .iface ty (a.eval x)) hS ?_ (.ifc (ev_ok hT x))
  unfold isIface at hi
  simp only [execOp, ho, Instr.makeInterface, Sem.run_bind]
  cases hu : P.underlying ty with
  | none => rw [hu] at hi; simp at hi
  | some d =>
    rw [run_underlying hu]
    rw [hu] at hi
    cases d <;> simp at hi ⊢

end
end Go.AM
