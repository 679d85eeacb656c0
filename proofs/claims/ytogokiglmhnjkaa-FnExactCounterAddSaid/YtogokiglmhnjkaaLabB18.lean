/- Pictures of what a function holds, contracts of functions that change nothing, and environments made of them. No condition. -/
import Derived.Test.YtogokiglmhnjkaaLabB17
set_option linter.unusedVariables false
set_option linter.unusedSimpArgs false
namespace Go.AM

def isS : I → Bool
  | .s _ => true
  | _ => false

/-- No memory in it. -/
def flat : I → Bool
  | .s _ => true
  | .agg cs => cs.all isS
  | .tup cs => cs.all isS
  | .sl _ [] => true
  | _ => false

def chunks (z : Nat) : Nat → List I → List I
  | 0, _ => []
  | n + 1, l => .agg (l.take z) :: chunks z n (l.drop z)

/-- A picture as a value of a running function. -/
def ofI1 : I → V
  | .agg cs => .agg (cs.map .i)
  | x => .i x
def ofI : I → V
  | .agg cs => .agg (cs.map .i)
  | .tup cs => .tup (cs.map ofI1)
  | x => .i x

def mkRows (z : Nat) (ag : Bool) (len : Nat) (xs : List I) : Option I :=
  if ag then some (.sl z (chunks z len xs)) else if z = 1 then some (.sl 1 xs) else none

/-- What a value shows, all the way down; f: nothing of it may be older than the call. -/
def snap : Nat → Bool → Heap → V → Option I
  | 0, _, _, _ => none
  | n + 1, f, h, v => match v with
    | .i x => if f = false ∨ flat x = true then some x else none
    | .agg cs => (cs.mapM (snap n f h)).map .agg
    | .tup cs => (cs.mapM (snap n f h)).map .tup
    | .hsl b g off z ag len => if len = 0 then some (.sl z []) else (getCells h b g).bind fun cs => (((cs.drop off).take (len * z)).mapM (snap n f h)).bind (mkRows z ag len)
    | .ptr b g off => (getCells h b g).bind fun cs => if off < cs.length then ((cs.drop off).mapM (snap n f h)).map .ip else none
    | .mp b => match h[b]? with
      | some (.map ks vs) => (vs.mapM (snap n f h)).map (.im ks)
      | _ => none
    | _ => none

section
variable {P : Program} {base : Nat} {X : Nat → Prop} {w : World} {H H' : Heap} {G : List Nat}

theorem RL.weaken {M M' : Nat → Prop} (h : ∀ k, M' k → M k) {xs : List I} {vs : List Value} (hl : RL w M xs vs) : RL w M' xs vs := hl.goes (Goes.weaken h)
theorem RI.weaken {M M' : Nat → Prop} (h : ∀ k, M' k → M k) {x : I} {v : Value} (hl : RI w M x v) : RI w M' x v := hl.goes (Goes.weaken h)

theorem RL.scalars {M M' : Nat → Prop} : ∀ {xs : List I} {vs : List Value}, xs.all isS = true → RL w M xs vs → RL w M' xs vs
  | _, _, _, .nil => .nil
  | _, _, hs, .cons a b => by
    simp only [List.all_cons, Bool.and_eq_true] at hs
    have hb := RL.scalars (M' := M') hs.2 b
    have h1 := hs.1
    cases a with
    | s hp => exact .cons (.s hp) hb
    | _ => simp [isS] at h1

theorem RI.flat {M M' : Nat → Prop} {x : I} {v : Value} (hf : flat x = true) (h : RI w M x v) : RI w M' x v := by
  cases h with
  | s hp => exact .s hp
  | agg hl => exact .agg (hl.scalars hf)
  | tup hl => exact .tup (hl.scalars hf)
  | sl0 => exact .sl0
  | sl hne hc hm hb hr hl =>
    rename_i z xs a cap cs
    match xs, hne, hf with
    | [], hne, _ => exact absurd rfl hne
    | _ :: _, _, hf => simp [AM.flat] at hf
  | ip => simp [AM.flat] at hf
  | im => simp [AM.flat] at hf

theorem snap_list {M' : Nat → Prop} {n : Nat} {f : Bool} (ih : ∀ (v : V) (x : Value) (r : I), RV w base (Mof X H G) H G v x → snap n f H' v = some r → RI w M' r x) :
    ∀ {cs : List V} {xs : List Value} {rs : List I}, RVL w base (Mof X H G) H G cs xs → cs.mapM (snap n f H') = some rs → RL w M' rs xs
  | _, _, _, .nil, h => by simp at h; subst h; exact .nil
  | _, _, _, .cons (x := x) a b, h => by
    simp only [List.mapM_cons, Option.bind_eq_bind] at h
    obtain ⟨u, hu, h⟩ := Option.bind_eq_some_iff.1 h
    obtain ⟨l', h1, h2⟩ := Option.bind_eq_some_iff.1 h
    simp at h2
    subst h2
    exact .cons (ih _ _ _ a hu) (snap_list ih b h1)

theorem RR.chunks {M : Nat → Prop} (z : Nat) : ∀ (n : Nat) (xs : List I) (vs : List Value), xs.length = n * z → RL w M xs vs → RR w M z (chunks z n xs) vs
  | 0, xs, vs, hl, h => by
    have : xs = [] := List.eq_nil_of_length_eq_zero (by simpa using hl)
    subst this
    cases h
    exact .nil
  | n + 1, xs, vs, hl, h => by
    rw [Nat.add_mul, Nat.one_mul] at hl
    have hv := h.length
    have hc := RR.chunks z n (xs.drop z) (vs.drop z) (by simp; omega) (h.drop z)
    have := RR.cons (x := .agg (xs.take z)) (h.take z) (by simp; omega) hc
    rwa [List.take_append_drop] at this

theorem chunks_length (z : Nat) : ∀ (n : Nat) (xs : List I), (AM.chunks z n xs).length = n
  | 0, _ => rfl
  | n + 1, xs => by simp [AM.chunks, chunks_length z n]

theorem RR.ones {M : Nat → Prop} : ∀ (xs : List I) (vs : List Value), (∀ x, x ∈ xs → x.cells = [x]) → RL w M xs vs → RR w M 1 xs vs
  | [], _, _, .nil => .nil
  | x :: xs, v :: vs, h, .cons a b => by
    have := RR.cons (z := 1) (x := x) (cs := [v]) (by rw [h x (by simp)]; exact .cons a .nil) rfl (RR.ones xs vs (fun y hy => h y (by simp [hy])) b)
    simpa using this

theorem mapM_mem {α β : Type} {f : α → Option β} : ∀ {l : List α} {r : List β}, l.mapM f = some r → ∀ y, y ∈ r → ∃ x, x ∈ l ∧ f x = some y
  | [], r, h, y, hy => by simp at h; subst h; simp at hy
  | x :: l, r, h, y, hy => by
    simp only [List.mapM_cons, Option.bind_eq_bind] at h
    obtain ⟨u, hu, h⟩ := Option.bind_eq_some_iff.1 h
    obtain ⟨us, h1, h2⟩ := Option.bind_eq_some_iff.1 h
    simp at h2
    subst h2
    rcases List.mem_cons.1 hy with rfl | hy
    · exact ⟨x, by simp, hu⟩
    · obtain ⟨z, hz, hz2⟩ := mapM_mem h1 y hy
      exact ⟨z, by simp [hz], hz2⟩

theorem snap_one {n : Nat} {f : Bool} {y : V} {r : I} (hy : y.one = true) (h : snap n f H y = some r) : r.cells = [r] := by
  cases n with
  | zero => simp [snap] at h
  | succ n =>
    cases y with
    | i x =>
      simp only [snap] at h
      split at h
      · cases h
        cases r <;> simp_all [V.one, I.cells]
      · cases h
    | agg cs => simp [V.one] at hy
    | tup cs => simp [V.one] at hy
    | bad => simp [V.one] at hy
    | ptr b g off =>
      simp only [snap] at h
      obtain ⟨cs, _, h⟩ := Option.bind_eq_some_iff.1 h
      split at h
      · obtain ⟨xs, _, rfl⟩ := Option.map_eq_some_iff.1 h; rfl
      · cases h
    | hsl b g off z ag len =>
      simp only [snap] at h
      split at h
      · cases h; rfl
      obtain ⟨cs, _, h⟩ := Option.bind_eq_some_iff.1 h
      obtain ⟨xs, _, h⟩ := Option.bind_eq_some_iff.1 h
      unfold mkRows at h
      split at h
      · cases h; rfl
      · split at h
        · cases h; rfl
        · cases h
    | mp b =>
      simp only [snap] at h
      split at h
      · obtain ⟨xs, _, rfl⟩ := Option.map_eq_some_iff.1 h; rfl
      · cases h
    | it b => simp [snap] at h
    | clo g cs => simp [snap] at h
    | ifc g x => simp [snap] at h

theorem snap_ok (hS : SimH base X w H G) (f : Bool) : ∀ (n : Nat) (v : V) (x : Value) (r : I), RV w base (Mof X H G) H G v x → snap n f H v = some r → RI w (fun k => (f = true ∧ k < base) ∨ (f = false ∧ X k)) r x
  | 0, v, x, r, _, h => by simp [snap] at h
  | n + 1, v, x, r, hv, h => by
    have ih := snap_ok hS f n
    -- what lies in a block of the function's own
    have hblock : ∀ {b g : Nat} {cs : List V}, cellsAt H b g = some cs → ¬ ((f = true ∧ G.getD b 0 < base) ∨ (f = false ∧ X (G.getD b 0))) ∧ G.getD b 0 < w.heap.size := by
      intro b g cs hcs
      obtain ⟨h1, _⟩ := cellsAt_some hcs
      obtain ⟨k, g1, g2, g3, g4, _⟩ := hS.block b _ h1 rfl
      rw [getD_of g1]
      refine ⟨?_, g3⟩
      rintro (⟨_, h⟩ | ⟨_, h⟩)
      · omega
      · exact g4 h
    cases hv with
    | i hi =>
      simp only [snap] at h
      split at h
      · rename_i hc
        cases h
        rcases hc with hc | hc
        · refine hi.weaken ?_
          rintro k (⟨h1, h2⟩ | ⟨h1, h2⟩)
          · rw [h1] at hc; cases hc
          · exact .inl h2
        · exact hi.flat hc
      · cases h
    | agg hl =>
      simp only [snap] at h
      obtain ⟨rs, h1, rfl⟩ := Option.map_eq_some_iff.1 h
      exact .agg (snap_list ih hl h1)
    | tup hl =>
      simp only [snap] at h
      obtain ⟨rs, h1, rfl⟩ := Option.map_eq_some_iff.1 h
      exact .tup (snap_list ih hl h1)
    | hnil hr hcn =>
      simp only [snap, if_true] at h
      cases h
      exact .sl0
    | hsl hr hnv hzp hle hval =>
      rename_i b g off z ag len cap a
      simp only [snap] at h
      split at h
      · rename_i h0
        cases h
        subst h0
        exact .sl0
      obtain ⟨cs, hcs, h⟩ := Option.bind_eq_some_iff.1 h
      obtain ⟨xs, hxs, h⟩ := Option.bind_eq_some_iff.1 h
      replace hcs := getCells_not hcs hnv
      obtain ⟨d1, d2, N, d3, d4⟩ := hval cs hcs
      obtain ⟨arr, ty', g1, e1, e2, e3, e4, e5, e6⟩ := hS.at hcs
      obtain ⟨b1, b2⟩ := hblock hcs
      have hl := (e4.drop off).take (len * z)
      have hRL := snap_list ih hl hxs
      have hxl : xs.length = len * z := by
        rw [mapM_opt_length hxs]; simp; omega
      have hreads := Reads.of_block (off := off) (n := len * z) e1 (by omega)
      have hsub : ((arr.toList.take cs.length).drop off).take (len * z) = (arr.toList.drop off).take (len * z) := by
        rw [List.drop_take, List.take_take, Nat.min_eq_left (by omega)]
      rw [hsub] at hRL
      unfold mkRows at h
      by_cases h0 : len = 0
      · subst h0
        split at h
        · cases h; exact .sl0
        · split at h
          · cases h
            have : xs = [] := List.eq_nil_of_length_eq_zero (by simpa using hxl)
            subst this
            exact .sl0
          · cases h
      · have ha := d1 (.inl (by omega))
        subst ha
        split at h
        · cases h
          have := RI.sl (w := w) (M := fun k => (f = true ∧ k < base) ∨ (f = false ∧ X k)) (z := z) (xs := AM.chunks z len xs) (a := ⟨G.getD b 0, off, none⟩) (cap := cap) (cs := (arr.toList.drop off).take (len * z))
            (by intro e; have := chunks_length z len xs; rw [e] at this; simp at this; omega) (by rw [chunks_length]; exact hle) b1 b2 hreads (RR.chunks z len xs _ hxl hRL)
          rwa [chunks_length] at this
        · split at h
          · rename_i hz1
            cases h
            subst hz1
            have hones : ∀ y, y ∈ xs → y.cells = [y] := by
              intro y hy
              obtain ⟨u, hu, hu2⟩ := mapM_mem hxs y hy
              exact snap_one (e5 u (List.mem_of_mem_drop (List.mem_of_mem_take hu))) hu2
            have hlen1 : xs.length = len := by omega
            have := RI.sl (w := w) (M := fun k => (f = true ∧ k < base) ∨ (f = false ∧ X k)) (z := 1) (xs := xs) (a := ⟨G.getD b 0, off, none⟩) (cap := cap) (cs := (arr.toList.drop off).take (len * 1))
              (by intro e; rw [e] at hlen1; simp at hlen1; omega) (by omega) b1 b2 hreads (RR.ones xs _ hones hRL)
            rwa [hlen1] at this
          · cases h
    | ptr hr hnv hval =>
      rename_i b g off a
      simp only [snap] at h
      obtain ⟨cs, hcs, h⟩ := Option.bind_eq_some_iff.1 h
      replace hcs := getCells_not hcs hnv
      split at h
      · rename_i hlt
        obtain ⟨xs, hxs, rfl⟩ := Option.map_eq_some_iff.1 h
        have ha := hval cs hcs
        subst ha
        obtain ⟨arr, ty', g1, e1, e2, e3, e4, e5, e6⟩ := hS.at hcs
        obtain ⟨b1, b2⟩ := hblock hcs
        have hRL := snap_list ih (e4.drop off) hxs
        have hreads := Reads.of_block (off := off) (n := cs.length - off) e1 (by omega)
        rw [List.drop_take] at hRL
        exact .ip b1 b2 hreads hRL
      · cases h
    | mp hu hval =>
      rename_i b r'
      simp only [snap] at h
      split at h
      · rename_i ks vs hb
        obtain ⟨xs, hxs, rfl⟩ := Option.map_eq_some_iff.1 h
        obtain ⟨k, g1, g2, g3, g4, es, clock, m1, m2, m3, m4, m5⟩ := hS.block b _ hb rfl
        have := hval ks vs hb
        rw [getD_of g1] at this
        subst this
        refine .im ?_ m1 (m2.weaken (fun _ _ => trivial)) (snap_list ih m3 hxs)
        rintro (⟨_, h⟩ | ⟨_, h⟩)
        · omega
        · exact g4 h
      · cases h
    | _ => simp [snap] at h

/-- The same of what refers to nothing of the function's own. -/
theorem toI_ok : ∀ (n : Nat) (v : V) (x : Value) (r : I), RV w base (Mof X H G) H G v x → snap n false [] v = some r → RI w (Mof X H G) r x
  | 0, v, x, r, _, h => by simp [snap] at h
  | n + 1, v, x, r, hv, h => by
    have ih := toI_ok n
    cases hv with
    | i hi =>
      simp only [snap, true_or, if_true] at h
      cases h
      exact hi
    | agg hl =>
      simp only [snap] at h
      obtain ⟨rs, h1, rfl⟩ := Option.map_eq_some_iff.1 h
      exact .agg (snap_list ih hl h1)
    | tup hl =>
      simp only [snap] at h
      obtain ⟨rs, h1, rfl⟩ := Option.map_eq_some_iff.1 h
      exact .tup (snap_list ih hl h1)
    | hnil =>
      simp only [snap, if_true] at h
      cases h
      exact .sl0
    | hsl =>
      simp only [snap] at h
      split at h
      · rename_i h0
        cases h
        subst h0
        exact .sl0
      · simp [getCells] at h
    | ptr => simp [snap, getCells] at h
    | mp => simp [snap] at h
    | _ => simp [snap] at h

open Go.RowKit (Below)

/-- The contract of a function that changes nothing that was there. fresh: what it hands back is all new. -/
def PureOK (P : Program) (f : FuncId) (fresh : Bool) (F : List I → Option I) : Prop :=
  callable P f = true ∧ ∀ args r, F args = some r → ∀ (Y : Nat → Prop) (w : World) (xs : Array Value), (fresh = true → ∀ k, ¬ Y k) → RL w Y args xs.toList →
    Calls P f xs w fun e w' => ∃ x, e = .returned x ∧ Below w.heap.size w w' ∧ RI w' (fun k => k < w.heap.size ∧ (fresh = true ∨ Y k)) r x

theorem RL.toV0 : ∀ {xs : List I} {vs : List Value}, RL w (Mof X H G) xs vs → RVL w base (Mof X H G) H G (xs.map .i) vs := RL.toV

theorem RI.ofI1 {M : Nat → Prop} {x : I} {v : Value} (h : RI w M x v) : RV w base M H G (ofI1 x) v := by
  cases h with
  | agg hl => exact .agg (RL.toV hl)
  | s a => exact .i (.s a)
  | tup a => exact .i (.tup a)
  | sl0 => exact .i .sl0
  | sl a b c d e f => exact .i (.sl a b c d e f)
  | ip a b c d => exact .i (.ip a b c d)
  | im a b c d => exact .i (.im a b c d)
theorem RL.ofI1 {M : Nat → Prop} : ∀ {xs : List I} {vs : List Value}, RL w M xs vs → RVL w base M H G (xs.map AM.ofI1) vs
  | _, _, .nil => .nil
  | _, _, .cons a b => .cons a.ofI1 (RL.ofI1 b)
theorem RI.ofI {M : Nat → Prop} {x : I} {v : Value} (h : RI w M x v) : RV w base M H G (ofI x) v := by
  cases h with
  | agg hl => exact .agg (RL.toV hl)
  | tup hl => exact .tup (RL.ofI1 hl)
  | s a => exact .i (.s a)
  | sl0 => exact .i .sl0
  | sl a b c d e f => exact .i (.sl a b c d e f)
  | ip a b c d => exact .i (.ip a b c d)
  | im a b c d => exact .i (.im a b c d)
theorem RL.ofI {M : Nat → Prop} : ∀ {xs : List I} {vs : List Value}, RL w M xs vs → RVL w base M H G (xs.map AM.ofI) vs
  | _, _, .nil => .nil
  | _, _, .cons a b => .cons a.ofI (RL.ofI b)

theorem pure_of_fn {env : Env} {pur : Nat → Bool} {md : Modes} {f : FuncId} {fresh : Bool} {A : AFn} {F : List I → Option I} (hE : EnvOK P env) (hpur : ∀ f, pur f = true → PurEnv env f) (hcall : callable P f = true) (hc : compFn P pur md f = some A)
    (h : ∀ args r, F args = some r → ∃ v H', runFn P env A (args.map ofI) [] = some (v, H') ∧ snap 9 fresh H' v = some r) : PureOK P f fresh F := by
  refine ⟨hcall, ?_⟩
  intro args r hF Y w xs hY hl
  obtain ⟨v, H', h1, h2⟩ := h args r hF
  have hS : SimH w.heap.size (fun k => Y k ∧ k < w.heap.size) w [] [] :=
    ⟨rfl, Nat.le_refl _, fun k hk => hk.2, fun b s hb => by simp at hb, fun b b' s s' k hb => by simp at hb⟩
  have hM : ∀ k, Mof (fun k => Y k ∧ k < w.heap.size) [] [] k → Y k := by
    rintro k (hk | ⟨b, s, hb, _⟩)
    · exact hk.1
    · simp at hb
  have hl2 : RVL w w.heap.size (Mof (fun k => Y k ∧ k < w.heap.size) [] []) [] [] (args.map ofI) xs.toList := by
    exact RL.ofI (hl.weaken hM)
  refine (fn_ok hE hpur hc h1 w.heap.size _ w [] xs hS hl2).mono ?_
  rintro e w' ⟨x, G', rfl, hE', hS', hv⟩
  refine ⟨x, rfl, ⟨hE'.os, hE'.tape, hE'.output, hE'.size, fun k hk => hE'.keep k hk ?_⟩, ?_⟩
  · rintro ⟨b, s, hb, _⟩
    simp at hb
  · have := snap_ok hS' fresh 9 v x r hv h2
    refine this.weaken ?_
    rintro k ⟨hk, hk2⟩
    cases fresh with
    | true => exact .inl ⟨rfl, hk⟩
    | false =>
      right
      rcases hk2 with hk2 | hk2
      · cases hk2
      · exact ⟨rfl, hk2, hk⟩

theorem mapM_imp {α β : Type} {f g : α → Option β} (hfg : ∀ x y, f x = some y → g x = some y) : ∀ {l : List α} {r : List β}, l.mapM f = some r → l.mapM g = some r
  | [], r, h => by simpa using h
  | x :: l, r, h => by
    simp only [List.mapM_cons, Option.bind_eq_bind] at h ⊢
    obtain ⟨u, hu, h⟩ := Option.bind_eq_some_iff.1 h
    obtain ⟨us, h1, h2⟩ := Option.bind_eq_some_iff.1 h
    rw [hfg x u hu, mapM_imp hfg h1]
    exact h2

theorem snap_up {f : Bool} {H2 : Heap} (u : Up H H2) : ∀ (n : Nat) (v : V) (r : I), snap n f H v = some r → snap n f H2 v = some r
  | 0, v, r, h => by simp [snap] at h
  | n + 1, v, r, h => by
    have ih := snap_up (f := f) u n
    cases v with
    | i x => exact h
    | agg cs =>
      simp only [snap] at h ⊢
      obtain ⟨rs, h1, rfl⟩ := Option.map_eq_some_iff.1 h
      rw [mapM_imp ih h1]; rfl
    | tup cs =>
      simp only [snap] at h ⊢
      obtain ⟨rs, h1, rfl⟩ := Option.map_eq_some_iff.1 h
      rw [mapM_imp ih h1]; rfl
    | hsl b g off z ag len =>
      simp only [snap] at h ⊢
      split at h
      · rename_i h0; rw [if_pos h0]; exact h
      rename_i h0
      rw [if_neg h0]
      obtain ⟨cs, h1, h⟩ := Option.bind_eq_some_iff.1 h
      obtain ⟨rs, h2, h⟩ := Option.bind_eq_some_iff.1 h
      rw [getCells_up u h1, Option.bind_some, mapM_imp ih h2]
      exact h
    | ptr b g off =>
      simp only [snap] at h ⊢
      obtain ⟨cs, h1, h⟩ := Option.bind_eq_some_iff.1 h
      rw [getCells_up u h1, Option.bind_some]
      split at h
      · rename_i hc
        obtain ⟨rs, h2, rfl⟩ := Option.map_eq_some_iff.1 h
        rw [if_pos hc, mapM_imp ih h2]
        rfl
      · cases h
    | mp b =>
      simp only [snap] at h ⊢
      split at h
      · rename_i ks vs hb
        obtain ⟨rs, h2, rfl⟩ := Option.map_eq_some_iff.1 h
        rw [u _ _ hb (by intro e; cases e)]
        simp only [mapM_imp ih h2]
        rfl
      · cases h
    | _ => simp [snap] at h

abbrev Fun := Option Nat → List V → Heap → Option (V × Heap)

def FunOK (P : Program) (f : FuncId) (g : Fun) : Prop := ∀ slot args H v H', g slot args H = some (v, H') → callable P f = true ∧ FnOK P f args H v H'

def pureFn (fresh : Bool) (F : List I → Option I) : Fun := fun _ args H =>
  ((args.mapM (snap 9 false (if fresh then H else []))).bind F).map fun r => (ofI r, H)

theorem pureFn_ok {f : FuncId} {fresh : Bool} {F : List I → Option I} (h : PureOK P f fresh F) : FunOK P f (pureFn fresh F) := by
  intro slot args H v H' hg
  refine ⟨h.1, ?_⟩
  unfold pureFn at hg
  obtain ⟨r, h1, h2⟩ := Option.map_eq_some_iff.1 hg
  obtain ⟨as, h3, h4⟩ := Option.bind_eq_some_iff.1 h1
  simp only [Prod.mk.injEq] at h2
  obtain ⟨rfl, rfl⟩ := h2
  intro base X w G xs hS hl
  have hY : ∃ Y : Nat → Prop, (fresh = true → ∀ k, ¬ Y k) ∧ RL w Y as xs.toList ∧ (fresh = false → ∀ k, Mof X H G k → Y k) := by
    cases fresh with
    | true =>
      refine ⟨fun _ => False, fun _ _ h => h, ?_, by simp⟩
      simp only [if_true] at h3
      exact snap_list (fun v x r hv hr => (snap_ok hS false 9 v x r hv hr).weaken (fun _ h => h.elim)) hl h3
    | false =>
      refine ⟨Mof X H G, by simp, ?_, fun _ _ h => h⟩
      simp only [Bool.false_eq_true, if_false] at h3
      exact snap_list (fun v x r hv hr => toI_ok 9 v x r hv hr) hl h3
  obtain ⟨Y, y1, y2, y3⟩ := hY
  refine (h.2 as r h4 Y w xs y1 y2).mono ?_
  rintro e w' ⟨x, rfl, hB, hr⟩
  have hE : Ext w H G w' H G := Ext.quiet hS hB.os hB.tape hB.output hB.size (fun k hk => hB.block k hk)
  refine ⟨x, G, rfl, hE, hS.quiet hE (fun k hk => hB.block k hk), (hr.weaken ?_).ofI⟩
  have hlt : ∀ k, Mof X H G k → k < w.heap.size := by
    rintro k (hk | ⟨b, s, hb, hl, hg⟩)
    · exact hS.xlt k hk
    · obtain ⟨k', g1, _, g3, _⟩ := hS.block b s hb hl
      rw [hg] at g1
      cases g1
      exact g3
  intro k hk
  refine ⟨hlt k hk, ?_⟩
  cases fresh with
  | true => exact .inl rfl
  | false => exact .inr (y3 rfl k hk)

theorem pureFn_pur {env : Env} {f : Nat} {fresh : Bool} {F : List I → Option I} (h : ∀ slot args H, env f slot args H = pureFn fresh F slot args H) :
    ∀ slot args h v h', env f slot args h = some (v, h') → h' = h ∧ ∀ h2, Up h h2 → env f slot args h2 = some (v, h2) := by
  intro slot args H v H' he
  rw [h] at he
  unfold pureFn at he
  obtain ⟨r, h1, h2⟩ := Option.map_eq_some_iff.1 he
  obtain ⟨as, h3, h4⟩ := Option.bind_eq_some_iff.1 h1
  cases h2
  refine ⟨rfl, fun H2 u => ?_⟩
  rw [h]
  unfold pureFn
  have : args.mapM (snap 9 false (if fresh then H2 else [])) = some as := by
    cases fresh with
    | true => simp only [if_true] at h3 ⊢; exact mapM_imp (snap_up u 9) h3
    | false => exact h3
  rw [this, Option.bind_some, h4]
  rfl

def envOf (l : List (Nat × Fun)) : Env := fun f slot args h => (l.lookup f).bind fun g => g slot args h

theorem envOf_ok : ∀ (l : List (Nat × Fun)), (∀ p, p ∈ l → FunOK P (p.1 / 2) p.2) → EnvOK P (envOf l) := by
  intro l hl f slot args H v H' h
  unfold envOf at h
  obtain ⟨g, h1, h2⟩ := Option.bind_eq_some_iff.1 h
  have : ∀ (l : List (Nat × Fun)), l.lookup f = some g → (f, g) ∈ l := by
    intro l
    induction l with
    | nil => intro h; simp at h
    | cons p l ih =>
      intro h
      obtain ⟨k, u⟩ := p
      rw [List.lookup_cons] at h
      split at h
      · rename_i he
        cases h
        have : f = k := by simpa using he
        subst this
        simp
      · exact List.mem_cons_of_mem _ (ih h)
  exact hl (f, g) (this l h1) slot args H v H' h2

end
end Go.AM
