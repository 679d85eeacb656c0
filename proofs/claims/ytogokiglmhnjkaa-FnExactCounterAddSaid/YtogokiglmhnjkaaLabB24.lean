/- Pictures that differ in empty slices alone; typed contracts. No condition. -/
import Derived.Test.YtogokiglmhnjkaaLabB23
set_option linter.unusedVariables false
set_option linter.unusedSimpArgs false
namespace Go.AM

mutual
/-- The same picture, but that empty slices may be told otherwise. -/
inductive Sub : I → I → Prop
  | refl (x : I) : Sub x x
  | nil (z : Nat) : Sub (.s (.slice none 0 0)) (.sl z [])
  | empty (z z' : Nat) : Sub (.sl z []) (.sl z' [])
  | agg {cs ds : List I} : SubL cs ds → Sub (.agg cs) (.agg ds)
  | tup {cs ds : List I} : SubL cs ds → Sub (.tup cs) (.tup ds)
  | sl {z : Nat} {xs ys : List I} : SubL xs ys → Sub (.sl z xs) (.sl z ys)
  | ip {cs ds : List I} : SubL cs ds → Sub (.ip cs) (.ip ds)
inductive SubL : List I → List I → Prop
  | nil : SubL [] []
  | cons {x y : I} {xs ys : List I} : Sub x y → SubL xs ys → SubL (x :: xs) (y :: ys)
end

theorem SubL.refl : ∀ (xs : List I), SubL xs xs
  | [] => .nil
  | x :: xs => .cons (.refl x) (SubL.refl xs)

theorem SubL.length : ∀ {xs ys : List I}, SubL xs ys → ys.length = xs.length
  | _, _, .nil => rfl
  | _, _, .cons _ b => by simp [b.length]

theorem SubL.append : ∀ {xs ys us vs : List I}, SubL xs ys → SubL us vs → SubL (xs ++ us) (ys ++ vs)
  | _, _, _, _, .nil, h => h
  | _, _, _, _, .cons a b, h => .cons a (b.append h)

theorem Sub.cells {x y : I} (h : Sub x y) : SubL x.cells y.cells := by
  cases h with
  | refl => exact SubL.refl _
  | nil z => exact .cons (.nil z) .nil
  | empty z z' => exact .cons (.empty z z') .nil
  | agg hl => exact hl
  | tup hl => exact .cons (.tup hl) .nil
  | sl hl => exact .cons (.sl hl) .nil
  | ip hl => exact .cons (.ip hl) .nil

section
variable {w : World} {M : Nat → Prop}

theorem sl0_of {z z' : Nat} {v : Value} (h : RI w M (.sl z []) v) : RI w M (.sl z' []) v := by
  generalize hx : I.sl z [] = x at h
  cases h with
  | sl0 => exact .sl0
  | sl hne hc hm hb hr hl => cases hx; exact absurd rfl hne
  | _ => cases hx

mutual
theorem RI.sub {x y : I} {v : Value} : Sub x y → RI w M x v → RI w M y v
  | .refl _, h => h
  | .nil z, h => by
    cases h
    exact .sl0
  | .empty z z', h => sl0_of h
  | .agg hl, h => by
    cases h with
    | agg hr => exact .agg (RL.sub hl hr)
  | .tup hl, h => by
    cases h with
    | tup hr => exact .tup (RL.sub hl hr)
  | .sl (xs := xs) (ys := ys) hl, h => by
    cases h with
    | sl0 => cases hl; exact .sl0
    | sl hne hc hm hb hr hrr =>
      rename_i a cap cs
      have hlen := hl.length
      have := RI.sl (w := w) (M := M) (xs := ys) (cap := cap) (by intro e; subst e; cases hl; exact hne rfl) (by omega) hm hb hr (RR.sub hl hrr)
      rwa [hlen] at this
  | .ip hl, h => by
    cases h with
    | ip hm hb hr hrl => exact .ip hm hb hr (RL.sub hl hrl)
theorem RL.sub {xs ys : List I} {vs : List Value} : SubL xs ys → RL w M xs vs → RL w M ys vs
  | .nil, h => h
  | .cons a b, h => by
    cases h with
    | cons h1 h2 => exact .cons (RI.sub a h1) (RL.sub b h2)
theorem RR.sub {z : Nat} {xs ys : List I} {cs : List Value} : SubL xs ys → RR w M z xs cs → RR w M z ys cs
  | .nil, h => h
  | .cons (.refl _) b, h => by
    cases h with
    | cons h1 h2 h3 => exact .cons h1 h2 (RR.sub b h3)
  | .cons (.agg hl) b, h => by
    cases h with
    | cons h1 h2 h3 => exact .cons (RL.sub hl h1) h2 (RR.sub b h3)
  | .cons (.nil z0) b, h => by
    cases h with
    | cons h1 h2 h3 =>
      refine .cons ?_ h2 (RR.sub b h3)
      cases h1 with
      | cons p q =>
        cases p
        exact .cons .sl0 q
  | .cons (.empty z0 z1) b, h => by
    cases h with
    | cons h1 h2 h3 =>
      refine .cons ?_ h2 (RR.sub b h3)
      cases h1 with
      | cons p q => exact .cons (sl0_of p) q
  | .cons (.tup hl) b, h => by
    cases h with
    | cons h1 h2 h3 =>
      refine .cons ?_ h2 (RR.sub b h3)
      cases h1 with
      | cons p q =>
        cases p with
        | tup hr => exact .cons (.tup (RL.sub hl hr)) q
  | .cons (.sl hl) b, h => by
    cases h with
    | cons h1 h2 h3 =>
      refine .cons ?_ h2 (RR.sub b h3)
      cases h1 with
      | cons p q => exact .cons (RI.sub (.sl hl) p) q
  | .cons (.ip hl) b, h => by
    cases h with
    | cons h1 h2 h3 =>
      refine .cons ?_ h2 (RR.sub b h3)
      cases h1 with
      | cons p q =>
        cases p with
        | ip hm hb hr hrl => exact .cons (.ip hm hb hr (RL.sub hl hrl)) q
end
end

end Go.AM
