/- The law FnExactCounterJoin: its functions' contracts, its run, its row. No condition. -/
import Derived.Test.YtjnkmdphjopboaaRows
import Derived.Test.YtjnkmdphjopboaaLabPCounterJoin
import Derived.WalkKit
import Derived.ProofKit
set_option linter.unusedVariables false
namespace Go.Proofs.Ytjnkmdphjopboaa.RFnExactCounterJoin
open Go.AM
open Pic (enc dec dec_enc dec_sub)
def Md : Modes := fun f => if f == 16 then 4 else if f == 17 then 1 else if f == 21 then 4 else if f == 22 then 1 else if f == 23 then 1 else if f == 25 then 2 else if f == 27 then 4 else if f == 28 then 1 else if f == 29 then 1 else if f == 32 then 2 else if f == 33 then 2 else if f == 35 then 4 else if f == 36 then 1 else if f == 37 then 4 else if f == 38 then 1 else if f == 39 then 2 else if f == 42 then 4 else if f == 43 then 1 else if f == 44 then 1 else if f == 46 then 2 else if f == 48 then 4 else if f == 49 then 1 else if f == 50 then 1 else if f == 52 then 2 else if f == 54 then 4 else if f == 55 then 1 else if f == 56 then 4 else if f == 57 then 1 else if f == 58 then 1 else if f == 59 then 4 else if f == 60 then 1 else if f == 61 then 4 else if f == 62 then 1 else if f == 65 then 4 else if f == 66 then 1 else if f == 67 then 1 else if f == 69 then 2 else if f == 74 then 4 else if f == 77 then 1 else if f == 80 then 2 else if f == 82 then 2 else if f == 84 then 2 else if f == 91 then 1 else if f == 93 then 1 else if f == 94 then 1 else if f == 95 then 2 else if f == 96 then 2 else if f == 98 then 1 else if f == 99 then 2 else if f == 100 then 2 else if f == 104 then 1 else if f == 106 then 1 else if f == 108 then 2 else if f == 119 then 2 else if f == 122 then 4 else if f == 123 then 4 else 0
def Ap : Nat → Bool := fun f => Md f == 1
def MdL : Modes := fun f => if Md f == 1 then 3 else Md f
def ApL : Nat → Bool := fun f => MdL f == 1
noncomputable def e73 : Env := mkEnv [] []
theorem e73_ok : EnvOK Try.prog e73 := mkEnv_ok (by intro p hp; cases hp) (by intro p hp; cases hp)
theorem w73_pur : ∀ c, opens Ap c = true → PurEnv e73 c := mkEnv_pur _ _ (by intro p hp; cases hp)
theorem o73 : PureOK Try.prog 73 true (FA fun a : List Int × Int => p_laws_szIntS a.1 a.2) := pure_tells e73_ok w73_pur (md := Md) (by kernel_rfl) (A := c_laws_szIntS) (by kernel_rfl) (by
  rintro ⟨x, y⟩ b hb
  exact d_laws_szIntS x y hb)
noncomputable def e20 : Env := mkEnv [(73, true, FA fun a : List Int × Int => p_laws_szIntS a.1 a.2)] []
theorem e20_ok : EnvOK Try.prog e20 := mkEnv_ok (by
  intro p hp
  simp only [List.mem_cons, List.not_mem_nil, or_false] at hp
  subst hp
  exact o73) (by intro p hp; cases hp)
theorem w20_pur : ∀ c, opens Ap c = true → PurEnv e20 c := mkEnv_pur _ _ (by intro p hp; cases hp)
theorem u20_73 : e20 (2 * 73) = pureFn true (FA fun a : List Int × Int => p_laws_szIntS a.1 a.2) := by
  unfold e20
  exact mkEnv_at (by rfl)
theorem o20 : PureOK Try.prog 20 true (FA fun a : TVec × Int => p_laws_szVector a.1 a.2) := pure_tells e20_ok w20_pur (md := Md) (by kernel_rfl) (A := c_laws_szVector 73) (by kernel_rfl) (by
  rintro ⟨x, y⟩ b hb
  exact d_laws_szVector u20_73 x y hb)
noncomputable def e15 : Env := mkEnv [(20, true, FA fun a : TVec × Int => p_laws_szVector a.1 a.2)] []
theorem e15_ok : EnvOK Try.prog e15 := mkEnv_ok (by
  intro p hp
  simp only [List.mem_cons, List.not_mem_nil, or_false] at hp
  subst hp
  exact o20) (by intro p hp; cases hp)
theorem w15_pur : ∀ c, opens Ap c = true → PurEnv e15 c := mkEnv_pur _ _ (by intro p hp; cases hp)
theorem u15_20 : e15 (2 * 20) = pureFn true (FA fun a : TVec × Int => p_laws_szVector a.1 a.2) := by
  unfold e15
  exact mkEnv_at (by rfl)
theorem o15 : PureOK Try.prog 15 true (FA fun a : TCounter × Int => p_laws_szCounter a.1 a.2) := pure_tells e15_ok w15_pur (md := Md) (by kernel_rfl) (A := c_laws_szCounter 20) (by kernel_rfl) (by
  rintro ⟨x, y⟩ b hb
  exact d_laws_szCounter u15_20 x y hb)
noncomputable def e28 : Env := mkEnv [] []
theorem e28_ok : EnvOK Try.prog e28 := mkEnv_ok (by intro p hp; cases hp) (by intro p hp; cases hp)
theorem w28_pur : ∀ c, opens Ap c = true → PurEnv e28 c := mkEnv_pur _ _ (by intro p hp; cases hp)
theorem y28 : FunOK Try.prog 28 (ownFn Try.prog e28 (c_laws_toIntS)) := ownFn_ok e28_ok w28_pur (md := Md) (by kernel_rfl) (by kernel_rfl)
noncomputable def e22 : Env := mkEnv [] [(28, (ownFn Try.prog e28 (c_laws_toIntS)))]
theorem e22_ok : EnvOK Try.prog e22 := mkEnv_ok (by intro p hp; cases hp) (by
  intro p hp
  simp only [List.mem_cons, List.not_mem_nil, or_false] at hp
  subst hp
  exact y28)
theorem w22_pur : ∀ c, opens Ap c = true → PurEnv e22 c := mkEnv_pur _ _ (by
  intro p hp
  simp only [List.mem_cons, List.not_mem_nil, or_false] at hp
  subst hp
  intro _; exact ownFn_app)
theorem x22_28 : k_laws_toIntS (e22 (2 * 28 + 1)) := by
  unfold e22
  rw [mkEnv_own (g := (ownFn Try.prog e28 (c_laws_toIntS))) (by rfl)]
  exact ko_laws_toIntS
theorem y22 : FunOK Try.prog 22 (ownFn Try.prog e22 (c_laws_toVector 28)) := ownFn_ok e22_ok w22_pur (md := Md) (by kernel_rfl) (by kernel_rfl)
noncomputable def e17 : Env := mkEnv [] [(22, (ownFn Try.prog e22 (c_laws_toVector 28)))]
theorem e17_ok : EnvOK Try.prog e17 := mkEnv_ok (by intro p hp; cases hp) (by
  intro p hp
  simp only [List.mem_cons, List.not_mem_nil, or_false] at hp
  subst hp
  exact y22)
theorem w17_pur : ∀ c, opens Ap c = true → PurEnv e17 c := mkEnv_pur _ _ (by
  intro p hp
  simp only [List.mem_cons, List.not_mem_nil, or_false] at hp
  subst hp
  intro _; exact ownFn_app)
theorem x17_22 : k_laws_toVector (e17 (2 * 22 + 1)) := by
  unfold e17
  rw [mkEnv_own (g := (ownFn Try.prog e22 (c_laws_toVector 28))) (by rfl)]
  exact ko_laws_toVector x22_28
theorem o17 : PureOK Try.prog 17 true (FA fun a : TCounter => p_laws_toCounter a) := pure_tells e17_ok w17_pur (md := Md) (by kernel_rfl) (A := c_laws_toCounter 22) (by kernel_rfl) (by
  rintro x b hb
  exact d_laws_toCounter x17_22 x hb)
theorem y17 : FunOK Try.prog 17 (ownFn Try.prog e17 (c_laws_toCounter 22)) := ownFn_ok e17_ok w17_pur (md := Md) (by kernel_rfl) (by kernel_rfl)
noncomputable def e74 : Env := mkEnv [] []
theorem e74_ok : EnvOK Try.prog e74 := mkEnv_ok (by intro p hp; cases hp) (by intro p hp; cases hp)
theorem w74_pur : ∀ c, opens Ap c = true → PurEnv e74 c := mkEnv_pur _ _ (by intro p hp; cases hp)
theorem o74 : PureOK Try.prog 74 true (FA fun a : TVec => p_spec_VecOK a) := pure_tells e74_ok w74_pur (md := Md) (by kernel_rfl) (A := c_spec_VecOK) (by kernel_rfl) (by
  rintro x b hb
  exact d_spec_VecOK x hb)
noncomputable def e71 : Env := mkEnv [(74, true, FA fun a : TVec => p_spec_VecOK a)] []
theorem e71_ok : EnvOK Try.prog e71 := mkEnv_ok (by
  intro p hp
  simp only [List.mem_cons, List.not_mem_nil, or_false] at hp
  subst hp
  exact o74) (by intro p hp; cases hp)
theorem w71_pur : ∀ c, opens Ap c = true → PurEnv e71 c := mkEnv_pur _ _ (by intro p hp; cases hp)
theorem u71_74 : e71 (2 * 74) = pureFn true (FA fun a : TVec => p_spec_VecOK a) := by
  unfold e71
  exact mkEnv_at (by rfl)
theorem o71 : PureOK Try.prog 71 true (FA fun a : TCounter => p_spec_l03CounterOK a) := pure_tells e71_ok w71_pur (md := Md) (by kernel_rfl) (A := c_spec_l03CounterOK 74) (by kernel_rfl) (by
  rintro x b hb
  exact d_spec_l03CounterOK u71_74 x hb)
noncomputable def e75 : Env := mkEnv [] []
theorem e75_ok : EnvOK Try.prog e75 := mkEnv_ok (by intro p hp; cases hp) (by intro p hp; cases hp)
theorem w75_pur : ∀ c, opens Ap c = true → PurEnv e75 c := mkEnv_pur _ _ (by intro p hp; cases hp)
theorem o75 : PureOK Try.prog 75 true (FA fun a : TVec × TVec => p_spec_l02Join a.1 a.2) := pure_tells e75_ok w75_pur (md := Md) (by kernel_rfl) (A := c_spec_l02Join) (by kernel_rfl) (by
  rintro ⟨x, y⟩ b hb
  exact d_spec_l02Join x y hb)
noncomputable def e37 : Env := mkEnv [(71, true, FA fun a : TCounter => p_spec_l03CounterOK a), (75, true, FA fun a : TVec × TVec => p_spec_l02Join a.1 a.2)] []
theorem e37_ok : EnvOK Try.prog e37 := mkEnv_ok (by
  intro p hp
  simp only [List.mem_cons, List.not_mem_nil, or_false] at hp
  rcases hp with rfl | rfl
  · exact o71
  · exact o75) (by intro p hp; cases hp)
theorem w37_pur : ∀ c, opens Ap c = true → PurEnv e37 c := mkEnv_pur _ _ (by intro p hp; cases hp)
theorem u37_71 : e37 (2 * 71) = pureFn true (FA fun a : TCounter => p_spec_l03CounterOK a) := by
  unfold e37
  exact mkEnv_at (by rfl)
theorem u37_75 : e37 (2 * 75) = pureFn true (FA fun a : TVec × TVec => p_spec_l02Join a.1 a.2) := by
  unfold e37
  exact mkEnv_at (by rfl)
theorem o37 : PureOK Try.prog 37 false (FA fun a : TCounter × TCounter => p_spec_CounterJoin a.1 a.2) := pure_tells e37_ok w37_pur (md := Md) (by kernel_rfl) (A := c_spec_CounterJoin 71 75) (by kernel_rfl) (by
  rintro ⟨x, y⟩ b hb
  exact d_spec_CounterJoin u37_71 u37_75 x y hb)
noncomputable def e76 : Env := mkEnv [] []
theorem e76_ok : EnvOK Try.prog e76 := mkEnv_ok (by intro p hp; cases hp) (by intro p hp; cases hp)
theorem w76_pur : ∀ c, opens Ap c = true → PurEnv e76 c := mkEnv_pur _ _ (by intro p hp; cases hp)
theorem o76 : PureOK Try.prog 76 true (FA fun a : TVec => p_impl_VecOK a) := pure_tells e76_ok w76_pur (md := Md) (by kernel_rfl) (A := c_impl_VecOK) (by kernel_rfl) (by
  rintro x b hb
  exact d_impl_VecOK x hb)
noncomputable def e72 : Env := mkEnv [(76, true, FA fun a : TVec => p_impl_VecOK a)] []
theorem e72_ok : EnvOK Try.prog e72 := mkEnv_ok (by
  intro p hp
  simp only [List.mem_cons, List.not_mem_nil, or_false] at hp
  subst hp
  exact o76) (by intro p hp; cases hp)
theorem w72_pur : ∀ c, opens Ap c = true → PurEnv e72 c := mkEnv_pur _ _ (by intro p hp; cases hp)
theorem u72_76 : e72 (2 * 76) = pureFn true (FA fun a : TVec => p_impl_VecOK a) := by
  unfold e72
  exact mkEnv_at (by rfl)
theorem o72 : PureOK Try.prog 72 true (FA fun a : TCounter => p_impl_counterOK a) := pure_tells e72_ok w72_pur (md := Md) (by kernel_rfl) (A := c_impl_counterOK 76) (by kernel_rfl) (by
  rintro x b hb
  exact d_impl_counterOK u72_76 x hb)
noncomputable def e77 : Env := mkEnv [] []
theorem e77_ok : EnvOK Try.prog e77 := mkEnv_ok (by intro p hp; cases hp) (by intro p hp; cases hp)
theorem w77_pur : ∀ c, opens Ap c = true → PurEnv e77 c := mkEnv_pur _ _ (by intro p hp; cases hp)
theorem y77 : FunOK Try.prog 77 (ownFn Try.prog e77 (c_impl_vecJoin)) := ownFn_ok e77_ok w77_pur (md := Md) (by kernel_rfl) (by kernel_rfl)
noncomputable def e38 : Env := mkEnv [(72, true, FA fun a : TCounter => p_impl_counterOK a)] [(77, (ownFn Try.prog e77 (c_impl_vecJoin)))]
theorem e38_ok : EnvOK Try.prog e38 := mkEnv_ok (by
  intro p hp
  simp only [List.mem_cons, List.not_mem_nil, or_false] at hp
  subst hp
  exact o72) (by
  intro p hp
  simp only [List.mem_cons, List.not_mem_nil, or_false] at hp
  subst hp
  exact y77)
theorem w38_pur : ∀ c, opens Ap c = true → PurEnv e38 c := mkEnv_pur _ _ (by
  intro p hp
  simp only [List.mem_cons, List.not_mem_nil, or_false] at hp
  subst hp
  intro _; exact ownFn_app)
theorem u38_72 : e38 (2 * 72) = pureFn true (FA fun a : TCounter => p_impl_counterOK a) := by
  unfold e38
  exact mkEnv_at (by rfl)
theorem x38_77 : k_impl_vecJoin (e38 (2 * 77 + 1)) := by
  unfold e38
  rw [mkEnv_own (g := (ownFn Try.prog e77 (c_impl_vecJoin))) (by rfl)]
  exact ko_impl_vecJoin
theorem o38 : PureOK Try.prog 38 true (FA fun a : TCounter × TCounter => p_impl_CounterJoin a.1 a.2) := pure_tells e38_ok w38_pur (md := Md) (by kernel_rfl) (A := c_impl_CounterJoin 72 77) (by kernel_rfl) (by
  rintro ⟨x, y⟩ b hb
  exact d_impl_CounterJoin u38_72 x38_77 x y hb)
theorem y38 : FunOK Try.prog 38 (ownFn Try.prog e38 (c_impl_CounterJoin 72 77)) := ownFn_ok e38_ok w38_pur (md := Md) (by kernel_rfl) (by kernel_rfl)
noncomputable def e31 : Env := mkEnv [] []
theorem e31_ok : EnvOK Try.prog e31 := mkEnv_ok (by intro p hp; cases hp) (by intro p hp; cases hp)
theorem w31_pur : ∀ c, opens Ap c = true → PurEnv e31 c := mkEnv_pur _ _ (by intro p hp; cases hp)
theorem o31 : PureOK Try.prog 31 true (FA fun a : List Int × List Int => p_laws_eqIntS a.1 a.2) := pure_tells e31_ok w31_pur (md := Md) (by kernel_rfl) (A := c_laws_eqIntS) (by kernel_rfl) (by
  rintro ⟨x, y⟩ b hb
  exact d_laws_eqIntS x y hb)
noncomputable def e24 : Env := mkEnv [(31, true, FA fun a : List Int × List Int => p_laws_eqIntS a.1 a.2)] []
theorem e24_ok : EnvOK Try.prog e24 := mkEnv_ok (by
  intro p hp
  simp only [List.mem_cons, List.not_mem_nil, or_false] at hp
  subst hp
  exact o31) (by intro p hp; cases hp)
theorem w24_pur : ∀ c, opens Ap c = true → PurEnv e24 c := mkEnv_pur _ _ (by intro p hp; cases hp)
theorem u24_31 : e24 (2 * 31) = pureFn true (FA fun a : List Int × List Int => p_laws_eqIntS a.1 a.2) := by
  unfold e24
  exact mkEnv_at (by rfl)
theorem o24 : PureOK Try.prog 24 true (FA fun a : TVec × TVec => p_laws_eqVector a.1 a.2) := pure_tells e24_ok w24_pur (md := Md) (by kernel_rfl) (A := c_laws_eqVector 31) (by kernel_rfl) (by
  rintro ⟨x, y⟩ b hb
  exact d_laws_eqVector u24_31 x y hb)
noncomputable def e19 : Env := mkEnv [(24, true, FA fun a : TVec × TVec => p_laws_eqVector a.1 a.2)] []
theorem e19_ok : EnvOK Try.prog e19 := mkEnv_ok (by
  intro p hp
  simp only [List.mem_cons, List.not_mem_nil, or_false] at hp
  subst hp
  exact o24) (by intro p hp; cases hp)
theorem w19_pur : ∀ c, opens Ap c = true → PurEnv e19 c := mkEnv_pur _ _ (by intro p hp; cases hp)
theorem u19_24 : e19 (2 * 24) = pureFn true (FA fun a : TVec × TVec => p_laws_eqVector a.1 a.2) := by
  unfold e19
  exact mkEnv_at (by rfl)
theorem o19 : PureOK Try.prog 19 true (FA fun a : TCounter × TCounter => p_laws_eqCounter a.1 a.2) := pure_tells e19_ok w19_pur (md := Md) (by kernel_rfl) (A := c_laws_eqCounter 24) (by kernel_rfl) (by
  rintro ⟨x, y⟩ b hb
  exact d_laws_eqCounter u19_24 x y hb)
noncomputable def e32 : Env := mkEnv [] []
theorem e32_ok : EnvOK Try.prog e32 := mkEnv_ok (by intro p hp; cases hp) (by intro p hp; cases hp)
theorem w32_pur : ∀ c, opens Ap c = true → PurEnv e32 c := mkEnv_pur _ _ (by intro p hp; cases hp)
theorem y32 : FunOK Try.prog 32 (runIn Try.prog e32 (c_laws_markIntS)) := runIn_ok e32_ok w32_pur (md := Md) (by kernel_rfl) (by kernel_rfl)
noncomputable def e25 : Env := mkEnv [] [(32, (runIn Try.prog e32 (c_laws_markIntS)))]
theorem e25_ok : EnvOK Try.prog e25 := mkEnv_ok (by intro p hp; cases hp) (by
  intro p hp
  simp only [List.mem_cons, List.not_mem_nil, or_false] at hp
  subst hp
  exact y32)
theorem w25_pur : ∀ c, opens Ap c = true → PurEnv e25 c := mkEnv_pur _ _ (by
  intro p hp
  simp only [List.mem_cons, List.not_mem_nil, or_false] at hp
  subst hp
  intro h; exact absurd h (by rw [show Ap 32 = false from rfl]; exact Bool.false_ne_true))
theorem x25_32 : k_laws_markIntS (e25 (2 * 32 + 1)) := by
  unfold e25
  rw [mkEnv_own (g := (runIn Try.prog e32 (c_laws_markIntS))) (by rfl)]
  exact ko_laws_markIntS
theorem y25 : FunOK Try.prog 25 (runIn Try.prog e25 (c_laws_markVector 32)) := runIn_ok e25_ok w25_pur (md := Md) (by kernel_rfl) (by kernel_rfl)
noncomputable def e39 : Env := mkEnv [] [(25, (runIn Try.prog e25 (c_laws_markVector 32)))]
theorem e39_ok : EnvOK Try.prog e39 := mkEnv_ok (by intro p hp; cases hp) (by
  intro p hp
  simp only [List.mem_cons, List.not_mem_nil, or_false] at hp
  subst hp
  exact y25)
theorem w39_pur : ∀ c, opens Ap c = true → PurEnv e39 c := mkEnv_pur _ _ (by
  intro p hp
  simp only [List.mem_cons, List.not_mem_nil, or_false] at hp
  subst hp
  intro h; exact absurd h (by rw [show Ap 25 = false from rfl]; exact Bool.false_ne_true))
theorem x39_25 : k_laws_markVector (e39 (2 * 25 + 1)) := by
  unfold e39
  rw [mkEnv_own (g := (runIn Try.prog e25 (c_laws_markVector 32))) (by rfl)]
  exact ko_laws_markVector x25_32
theorem y39 : FunOK Try.prog 39 (runIn Try.prog e39 (c_laws_markCounter 25)) := runIn_ok e39_ok w39_pur (md := Md) (by kernel_rfl) (by kernel_rfl)
noncomputable def e63 : Env := mkEnv [] []
theorem e63_ok : EnvOK Try.prog e63 := mkEnv_ok (by intro p hp; cases hp) (by intro p hp; cases hp)
theorem w63_pur : ∀ c, opens Ap c = true → PurEnv e63 c := mkEnv_pur _ _ (by intro p hp; cases hp)
theorem o63 : PureOK Try.prog 63 true (FA fun a : List Int × Int => p_laws_heldIntS a.1 a.2) := pure_tells e63_ok w63_pur (md := Md) (by kernel_rfl) (A := c_laws_heldIntS) (by kernel_rfl) (by
  rintro ⟨x, y⟩ b hb
  exact d_laws_heldIntS x y hb)
noncomputable def e26 : Env := mkEnv [(63, true, FA fun a : List Int × Int => p_laws_heldIntS a.1 a.2)] []
theorem e26_ok : EnvOK Try.prog e26 := mkEnv_ok (by
  intro p hp
  simp only [List.mem_cons, List.not_mem_nil, or_false] at hp
  subst hp
  exact o63) (by intro p hp; cases hp)
theorem w26_pur : ∀ c, opens Ap c = true → PurEnv e26 c := mkEnv_pur _ _ (by intro p hp; cases hp)
theorem u26_63 : e26 (2 * 63) = pureFn true (FA fun a : List Int × Int => p_laws_heldIntS a.1 a.2) := by
  unfold e26
  exact mkEnv_at (by rfl)
theorem o26 : PureOK Try.prog 26 true (FA fun a : TVec × Int => p_laws_heldVector a.1 a.2) := pure_tells e26_ok w26_pur (md := Md) (by kernel_rfl) (A := c_laws_heldVector 63) (by kernel_rfl) (by
  rintro ⟨x, y⟩ b hb
  exact d_laws_heldVector u26_63 x y hb)
noncomputable def e40 : Env := mkEnv [(26, true, FA fun a : TVec × Int => p_laws_heldVector a.1 a.2)] []
theorem e40_ok : EnvOK Try.prog e40 := mkEnv_ok (by
  intro p hp
  simp only [List.mem_cons, List.not_mem_nil, or_false] at hp
  subst hp
  exact o26) (by intro p hp; cases hp)
theorem w40_pur : ∀ c, opens Ap c = true → PurEnv e40 c := mkEnv_pur _ _ (by intro p hp; cases hp)
theorem u40_26 : e40 (2 * 26) = pureFn true (FA fun a : TVec × Int => p_laws_heldVector a.1 a.2) := by
  unfold e40
  exact mkEnv_at (by rfl)
theorem o40 : PureOK Try.prog 40 true (FA fun a : TCounter × Int => p_laws_heldCounter a.1 a.2) := pure_tells e40_ok w40_pur (md := Md) (by kernel_rfl) (A := c_laws_heldCounter 26) (by kernel_rfl) (by
  rintro ⟨x, y⟩ b hb
  exact d_laws_heldCounter u40_26 x y hb)
noncomputable def e7 : Env := mkEnv [(15, true, FA fun a : TCounter × Int => p_laws_szCounter a.1 a.2), (17, true, FA fun a : TCounter => p_laws_toCounter a), (37, false, FA fun a : TCounter × TCounter => p_spec_CounterJoin a.1 a.2), (19, true, FA fun a : TCounter × TCounter => p_laws_eqCounter a.1 a.2), (40, true, FA fun a : TCounter × Int => p_laws_heldCounter a.1 a.2), (38, true, FA fun a : TCounter × TCounter => p_impl_CounterJoin a.1 a.2)] [(17, (ownFn Try.prog e17 (c_laws_toCounter 22))), (38, (ownFn Try.prog e38 (c_impl_CounterJoin 72 77))), (39, (runIn Try.prog e39 (c_laws_markCounter 25)))]
theorem e7_ok : EnvOK Try.prog e7 := mkEnv_ok (by
  intro p hp
  simp only [List.mem_cons, List.not_mem_nil, or_false] at hp
  rcases hp with rfl | rfl | rfl | rfl | rfl | rfl
  · exact o15
  · exact o17
  · exact o37
  · exact o19
  · exact o40
  · exact o38) (by
  intro p hp
  simp only [List.mem_cons, List.not_mem_nil, or_false] at hp
  rcases hp with rfl | rfl | rfl
  · exact y17
  · exact y38
  · exact y39)
theorem w7_pur : ∀ c, opens ApL c = true → PurEnv e7 c := mkEnv_pur _ _ (by
  intro p hp
  simp only [List.mem_cons, List.not_mem_nil, or_false] at hp
  rcases hp with rfl | rfl | rfl
  · intro h; exact absurd h (by rw [show ApL 17 = false from rfl]; exact Bool.false_ne_true)
  · intro h; exact absurd h (by rw [show ApL 38 = false from rfl]; exact Bool.false_ne_true)
  · intro h; exact absurd h (by rw [show ApL 39 = false from rfl]; exact Bool.false_ne_true))
theorem u7_15 : e7 (2 * 15) = pureFn true (FA fun a : TCounter × Int => p_laws_szCounter a.1 a.2) := by
  unfold e7
  exact mkEnv_at (by rfl)
theorem u7_17 : e7 (2 * 17) = pureFn true (FA fun a : TCounter => p_laws_toCounter a) := by
  unfold e7
  exact mkEnv_at (by rfl)
theorem u7_37 : e7 (2 * 37) = pureFn false (FA fun a : TCounter × TCounter => p_spec_CounterJoin a.1 a.2) := by
  unfold e7
  exact mkEnv_at (by rfl)
theorem u7_19 : e7 (2 * 19) = pureFn true (FA fun a : TCounter × TCounter => p_laws_eqCounter a.1 a.2) := by
  unfold e7
  exact mkEnv_at (by rfl)
theorem u7_40 : e7 (2 * 40) = pureFn true (FA fun a : TCounter × Int => p_laws_heldCounter a.1 a.2) := by
  unfold e7
  exact mkEnv_at (by rfl)
theorem u7_38 : e7 (2 * 38) = pureFn true (FA fun a : TCounter × TCounter => p_impl_CounterJoin a.1 a.2) := by
  unfold e7
  exact mkEnv_at (by rfl)
theorem x7_17 : k_laws_toCounter (e7 (2 * 17 + 1)) := by
  unfold e7
  rw [mkEnv_own (g := (ownFn Try.prog e17 (c_laws_toCounter 22))) (by rfl)]
  exact ko_laws_toCounter x17_22
theorem x7_38 : k_impl_CounterJoin (e7 (2 * 38 + 1)) := by
  unfold e7
  rw [mkEnv_own (g := (ownFn Try.prog e38 (c_impl_CounterJoin 72 77))) (by rfl)]
  exact ko_impl_CounterJoin u38_72 x38_77
theorem x7_39 : k_laws_markCounter (e7 (2 * 39 + 1)) := by
  unfold e7
  rw [mkEnv_own (g := (runIn Try.prog e39 (c_laws_markCounter 25))) (by rfl)]
  exact ko_laws_markCounter x39_25
theorem law : LawOK Try.prog 7 [.st [.st [.sl 8 (.int .i64)], .st [.sl 8 (.int .i64)]], .st [.st [.sl 8 (.int .i64)], .st [.sl 8 (.int .i64)]]] := law_of_run e7_ok w7_pur (md := MdL) (A := c_laws_FnExactCounterJoin 15 17 37 38 19 39 40) (by kernel_rfl) (by
  intro xs hx
  cases hx with
  | cons h0 hx =>
  cases hx with
  | cons h1 hx =>
  cases hx
  obtain ⟨a0, rfl, k0⟩ := fit_TCounter h0
  obtain ⟨a1, rfl, k1⟩ := fit_TCounter h1
  exact d_laws_FnExactCounterJoin u7_15 u7_17 u7_37 u7_19 u7_40 u7_38 x7_17 x7_38 x7_39 a0 a1 (plain_CounterJoin a0 a1 k0 k1))
theorem own : ownKnob Try.prog.godebug = none := by kernel_rfl
theorem laidOut : laidOutB Try.prog = true := by kernel_rfl
set_option maxRecDepth 100000 in
theorem lifted (os : Os) (started : os.Started) (H : Type) (enc : TypeId × Value → H) :
    ReturnsInHanded {} Try.checked os 7 .any (Rows.fnExactCounterJoinSpec.pre6 enc Try.prog Try.f7 Rows.fnExactCounterJoinRow.domain false) (Rows.fnExactCounterJoinSpec.post enc Try.prog Try.f7 false true false false) := by
  refine returnsInHanded_of_change_sized (C := Try.checked) own started (by kernel_rfl) Try.func7
    (ChangeSpec.witness6 (enc := enc) (C := Try.checked) false ⟨#[], #[.agg #[.slice none 0 0, .slice none 0 0], .agg #[.slice none 0 0, .slice none 0 0]], []⟩ 8 (by kernel_rfl) (by kernel_rfl) (by kernel_rfl) (by kernel_rfl)) ?_
  intro W base args ds gs before hval hW hcnd hsz _
  refine law_contract (n := 8) (tb := 4) (shs := [.st [.st [.sl 8 (.int .i64)], .st [.sl 8 (.int .i64)]], .st [.st [.sl 8 (.int .i64)], .st [.sl 8 (.int .i64)]]]) laidOut rfl ?_ (by kernel_rfl) Try.underlying4 (by kernel_rfl) (by kernel_rfl) law W base args ds gs before hval hW hsz
  intro ds hds
  have h1 : ds.length = 2 := hds
  match ds, h1 with
  | [d0, d1], _ => rfl
theorem over : Rows.fnExactCounterJoinRow.holds Try.pinned (OpenSpec.ofChange Rows.fnExactCounterJoinSpec) :=
  OpenClaim.holds_of_wide 7 Try.f7 rfl rfl rfl rfl rfl rfl rfl ⟨rfl, rfl, rfl, rfl, rfl⟩ rfl rfl rfl rfl rfl (by kernel_rfl) Try.func7 (by kernel_rfl)
    (of_decide_eq_true (by kernel_rfl)) (by unfold Func.isWrapper; first | (rw [if_pos (by decide +kernel)]; kernel_rfl) | (rw [if_neg (by decide +kernel)]; exact ⟨rfl, rfl⟩))
    (fun os started H enc _ => lifted os started H enc)
theorem proved : Rows.FnExactCounterJoinSaid := over
#print axioms proved
end Go.Proofs.Ytjnkmdphjopboaa.RFnExactCounterJoin
namespace Go.Proofs.Ytjnkmdphjopboaa
/-- The row, under a short name, for the claim. -/
theorem fnExactCounterJoin_holds : Rows.FnExactCounterJoinSaid := RFnExactCounterJoin.proved
end Go.Proofs.Ytjnkmdphjopboaa
