/- The law FnExactCounterAdd: its functions' contracts, its run, its row. No condition. -/
import Derived.Test.YtogokiglmhnjkaaRows
import Derived.Test.YtogokiglmhnjkaaLabPCounterAdd
import Derived.WalkKit
import Derived.ProofKit
set_option linter.unusedVariables false
namespace Go.Proofs.Ytogokiglmhnjkaa.RFnExactCounterAdd
open Go.AM
open Pic (enc dec dec_enc dec_sub)
def Md : Modes := fun f => if f == 10 then 4 else if f == 11 then 1 else if f == 12 then 1 else if f == 14 then 2 else if f == 16 then 4 else if f == 17 then 1 else if f == 18 then 1 else if f == 21 then 2 else if f == 22 then 2 else if f == 26 then 4 else if f == 27 then 1 else if f == 28 then 1 else if f == 29 then 1 else if f == 32 then 2 else if f == 33 then 2 else if f == 35 then 4 else if f == 36 then 1 else if f == 38 then 4 else if f == 39 then 1 else if f == 42 then 4 else if f == 43 then 1 else if f == 46 then 2 else if f == 47 then 2 else if f == 48 then 2 else if f == 53 then 1 else if f == 54 then 1 else if f == 57 then 1 else if f == 59 then 2 else if f == 61 then 2 else if f == 62 then 1 else if f == 63 then 2 else if f == 69 then 1 else if f == 70 then 1 else if f == 81 then 1 else if f == 91 then 4 else if f == 92 then 1 else if f == 94 then 2 else if f == 95 then 2 else if f == 96 then 1 else if f == 98 then 2 else if f == 100 then 2 else if f == 110 then 4 else if f == 119 then 2 else if f == 141 then 4 else 0
def Ap : Nat → Bool := fun f => Md f == 1
def MdL : Modes := fun f => if Md f == 1 then 3 else Md f
def ApL : Nat → Bool := fun f => MdL f == 1
noncomputable def e90 : Env := mkEnv [] []
theorem e90_ok : EnvOK Try.prog e90 := mkEnv_ok (by intro p hp; cases hp) (by intro p hp; cases hp)
theorem w90_pur : ∀ c, opens Ap c = true → PurEnv e90 c := mkEnv_pur _ _ (by intro p hp; cases hp)
theorem o90 : PureOK Try.prog 90 true (FA fun a : List Int × Int => p_laws_szIntS a.1 a.2) := pure_tells e90_ok w90_pur (md := Md) (by kernel_rfl) (A := c_laws_szIntS) (by kernel_rfl) (by
  rintro ⟨x, y⟩ b hb
  exact d_laws_szIntS x y hb)
noncomputable def e51 : Env := mkEnv [(90, true, FA fun a : List Int × Int => p_laws_szIntS a.1 a.2)] []
theorem e51_ok : EnvOK Try.prog e51 := mkEnv_ok (by
  intro p hp
  simp only [List.mem_cons, List.not_mem_nil, or_false] at hp
  subst hp
  exact o90) (by intro p hp; cases hp)
theorem w51_pur : ∀ c, opens Ap c = true → PurEnv e51 c := mkEnv_pur _ _ (by intro p hp; cases hp)
theorem u51_90 : e51 (2 * 90) = pureFn true (FA fun a : List Int × Int => p_laws_szIntS a.1 a.2) := by
  unfold e51
  exact mkEnv_at (by rfl)
theorem o51 : PureOK Try.prog 51 true (FA fun a : TVec × Int => p_laws_szVector a.1 a.2) := pure_tells e51_ok w51_pur (md := Md) (by kernel_rfl) (A := c_laws_szVector 90) (by kernel_rfl) (by
  rintro ⟨x, y⟩ b hb
  exact d_laws_szVector u51_90 x y hb)
noncomputable def e9 : Env := mkEnv [(51, true, FA fun a : TVec × Int => p_laws_szVector a.1 a.2)] []
theorem e9_ok : EnvOK Try.prog e9 := mkEnv_ok (by
  intro p hp
  simp only [List.mem_cons, List.not_mem_nil, or_false] at hp
  subst hp
  exact o51) (by intro p hp; cases hp)
theorem w9_pur : ∀ c, opens Ap c = true → PurEnv e9 c := mkEnv_pur _ _ (by intro p hp; cases hp)
theorem u9_51 : e9 (2 * 51) = pureFn true (FA fun a : TVec × Int => p_laws_szVector a.1 a.2) := by
  unfold e9
  exact mkEnv_at (by rfl)
theorem o9 : PureOK Try.prog 9 true (FA fun a : TCounter × Int => p_laws_szCounter a.1 a.2) := pure_tells e9_ok w9_pur (md := Md) (by kernel_rfl) (A := c_laws_szCounter 51) (by kernel_rfl) (by
  rintro ⟨x, y⟩ b hb
  exact d_laws_szCounter u9_51 x y hb)
noncomputable def e92 : Env := mkEnv [] []
theorem e92_ok : EnvOK Try.prog e92 := mkEnv_ok (by intro p hp; cases hp) (by intro p hp; cases hp)
theorem w92_pur : ∀ c, opens Ap c = true → PurEnv e92 c := mkEnv_pur _ _ (by intro p hp; cases hp)
theorem y92 : FunOK Try.prog 92 (ownFn Try.prog e92 (c_laws_toIntS)) := ownFn_ok e92_ok w92_pur (md := Md) (by kernel_rfl) (by kernel_rfl)
noncomputable def e54 : Env := mkEnv [] [(92, (ownFn Try.prog e92 (c_laws_toIntS)))]
theorem e54_ok : EnvOK Try.prog e54 := mkEnv_ok (by intro p hp; cases hp) (by
  intro p hp
  simp only [List.mem_cons, List.not_mem_nil, or_false] at hp
  subst hp
  exact y92)
theorem w54_pur : ∀ c, opens Ap c = true → PurEnv e54 c := mkEnv_pur _ _ (by
  intro p hp
  simp only [List.mem_cons, List.not_mem_nil, or_false] at hp
  subst hp
  intro _; exact ownFn_app)
theorem x54_92 : k_laws_toIntS (e54 (2 * 92 + 1)) := by
  unfold e54
  rw [mkEnv_own (g := (ownFn Try.prog e92 (c_laws_toIntS))) (by rfl)]
  exact ko_laws_toIntS
theorem y54 : FunOK Try.prog 54 (ownFn Try.prog e54 (c_laws_toVector 92)) := ownFn_ok e54_ok w54_pur (md := Md) (by kernel_rfl) (by kernel_rfl)
noncomputable def e11 : Env := mkEnv [] [(54, (ownFn Try.prog e54 (c_laws_toVector 92)))]
theorem e11_ok : EnvOK Try.prog e11 := mkEnv_ok (by intro p hp; cases hp) (by
  intro p hp
  simp only [List.mem_cons, List.not_mem_nil, or_false] at hp
  subst hp
  exact y54)
theorem w11_pur : ∀ c, opens Ap c = true → PurEnv e11 c := mkEnv_pur _ _ (by
  intro p hp
  simp only [List.mem_cons, List.not_mem_nil, or_false] at hp
  subst hp
  intro _; exact ownFn_app)
theorem x11_54 : k_laws_toVector (e11 (2 * 54 + 1)) := by
  unfold e11
  rw [mkEnv_own (g := (ownFn Try.prog e54 (c_laws_toVector 92))) (by rfl)]
  exact ko_laws_toVector x54_92
theorem o11 : PureOK Try.prog 11 true (FA fun a : TCounter => p_laws_toCounter a) := pure_tells e11_ok w11_pur (md := Md) (by kernel_rfl) (A := c_laws_toCounter 54) (by kernel_rfl) (by
  rintro x b hb
  exact d_laws_toCounter x11_54 x hb)
theorem y11 : FunOK Try.prog 11 (ownFn Try.prog e11 (c_laws_toCounter 54)) := ownFn_ok e11_ok w11_pur (md := Md) (by kernel_rfl) (by kernel_rfl)
noncomputable def e91 : Env := mkEnv [] []
theorem e91_ok : EnvOK Try.prog e91 := mkEnv_ok (by intro p hp; cases hp) (by intro p hp; cases hp)
theorem w91_pur : ∀ c, opens Ap c = true → PurEnv e91 c := mkEnv_pur _ _ (by intro p hp; cases hp)
theorem o91 : PureOK Try.prog 91 true (FA fun a : TVec => p_spec_VecOK a) := pure_tells e91_ok w91_pur (md := Md) (by kernel_rfl) (A := c_spec_VecOK) (by kernel_rfl) (by
  rintro x b hb
  exact d_spec_VecOK x hb)
noncomputable def e52 : Env := mkEnv [(91, true, FA fun a : TVec => p_spec_VecOK a)] []
theorem e52_ok : EnvOK Try.prog e52 := mkEnv_ok (by
  intro p hp
  simp only [List.mem_cons, List.not_mem_nil, or_false] at hp
  subst hp
  exact o91) (by intro p hp; cases hp)
theorem w52_pur : ∀ c, opens Ap c = true → PurEnv e52 c := mkEnv_pur _ _ (by intro p hp; cases hp)
theorem u52_91 : e52 (2 * 91) = pureFn true (FA fun a : TVec => p_spec_VecOK a) := by
  unfold e52
  exact mkEnv_at (by rfl)
theorem o52 : PureOK Try.prog 52 true (FA fun a : TCounter => p_spec_l03CounterOK a) := pure_tells e52_ok w52_pur (md := Md) (by kernel_rfl) (A := c_spec_l03CounterOK 91) (by kernel_rfl) (by
  rintro x b hb
  exact d_spec_l03CounterOK u52_91 x hb)
noncomputable def e53 : Env := mkEnv [] []
theorem e53_ok : EnvOK Try.prog e53 := mkEnv_ok (by intro p hp; cases hp) (by intro p hp; cases hp)
theorem w53_pur : ∀ c, opens Ap c = true → PurEnv e53 c := mkEnv_pur _ _ (by intro p hp; cases hp)
theorem y53 : FunOK Try.prog 53 (ownFn Try.prog e53 (c_spec_l02Copy)) := ownFn_ok e53_ok w53_pur (md := Md) (by kernel_rfl) (by kernel_rfl)
noncomputable def e10 : Env := mkEnv [(52, true, FA fun a : TCounter => p_spec_l03CounterOK a)] [(53, (ownFn Try.prog e53 (c_spec_l02Copy)))]
theorem e10_ok : EnvOK Try.prog e10 := mkEnv_ok (by
  intro p hp
  simp only [List.mem_cons, List.not_mem_nil, or_false] at hp
  subst hp
  exact o52) (by
  intro p hp
  simp only [List.mem_cons, List.not_mem_nil, or_false] at hp
  subst hp
  exact y53)
theorem w10_pur : ∀ c, opens Ap c = true → PurEnv e10 c := mkEnv_pur _ _ (by
  intro p hp
  simp only [List.mem_cons, List.not_mem_nil, or_false] at hp
  subst hp
  intro _; exact ownFn_app)
theorem u10_52 : e10 (2 * 52) = pureFn true (FA fun a : TCounter => p_spec_l03CounterOK a) := by
  unfold e10
  exact mkEnv_at (by rfl)
theorem x10_53 : k_spec_l02Copy (e10 (2 * 53 + 1)) := by
  unfold e10
  rw [mkEnv_own (g := (ownFn Try.prog e53 (c_spec_l02Copy))) (by rfl)]
  exact ko_spec_l02Copy
theorem o10 : PureOK Try.prog 10 true (FA fun a : TCounter × Int × Int => p_spec_CounterAdd a.1 a.2.1 a.2.2) := pure_tells e10_ok w10_pur (md := Md) (by kernel_rfl) (A := c_spec_CounterAdd 52 53) (by kernel_rfl) (by
  rintro ⟨x, y, z⟩ b hb
  exact d_spec_CounterAdd u10_52 x10_53 x y z hb)
noncomputable def e93 : Env := mkEnv [] []
theorem e93_ok : EnvOK Try.prog e93 := mkEnv_ok (by intro p hp; cases hp) (by intro p hp; cases hp)
theorem w93_pur : ∀ c, opens Ap c = true → PurEnv e93 c := mkEnv_pur _ _ (by intro p hp; cases hp)
theorem o93 : PureOK Try.prog 93 true (FA fun a : TVec => p_impl_VecOK a) := pure_tells e93_ok w93_pur (md := Md) (by kernel_rfl) (A := c_impl_VecOK) (by kernel_rfl) (by
  rintro x b hb
  exact d_impl_VecOK x hb)
noncomputable def e55 : Env := mkEnv [(93, true, FA fun a : TVec => p_impl_VecOK a)] []
theorem e55_ok : EnvOK Try.prog e55 := mkEnv_ok (by
  intro p hp
  simp only [List.mem_cons, List.not_mem_nil, or_false] at hp
  subst hp
  exact o93) (by intro p hp; cases hp)
theorem w55_pur : ∀ c, opens Ap c = true → PurEnv e55 c := mkEnv_pur _ _ (by intro p hp; cases hp)
theorem u55_93 : e55 (2 * 93) = pureFn true (FA fun a : TVec => p_impl_VecOK a) := by
  unfold e55
  exact mkEnv_at (by rfl)
theorem o55 : PureOK Try.prog 55 true (FA fun a : TCounter => p_impl_counterOK a) := pure_tells e55_ok w55_pur (md := Md) (by kernel_rfl) (A := c_impl_counterOK 93) (by kernel_rfl) (by
  rintro x b hb
  exact d_impl_counterOK u55_93 x hb)
noncomputable def e56 : Env := mkEnv [] []
theorem e56_ok : EnvOK Try.prog e56 := mkEnv_ok (by intro p hp; cases hp) (by intro p hp; cases hp)
theorem w56_pur : ∀ c, opens Ap c = true → PurEnv e56 c := mkEnv_pur _ _ (by intro p hp; cases hp)
theorem o56 : PureOK Try.prog 56 true (FA fun a : Int => p_impl_isActor a) := pure_tells e56_ok w56_pur (md := Md) (by kernel_rfl) (A := c_impl_isActor) (by kernel_rfl) (by
  rintro x b hb
  exact d_impl_isActor x hb)
noncomputable def e57 : Env := mkEnv [] []
theorem e57_ok : EnvOK Try.prog e57 := mkEnv_ok (by intro p hp; cases hp) (by intro p hp; cases hp)
theorem w57_pur : ∀ c, opens Ap c = true → PurEnv e57 c := mkEnv_pur _ _ (by intro p hp; cases hp)
theorem y57 : FunOK Try.prog 57 (ownFn Try.prog e57 (c_impl_vecCopy)) := ownFn_ok e57_ok w57_pur (md := Md) (by kernel_rfl) (by kernel_rfl)
noncomputable def e12 : Env := mkEnv [(55, true, FA fun a : TCounter => p_impl_counterOK a), (56, true, FA fun a : Int => p_impl_isActor a)] [(57, (ownFn Try.prog e57 (c_impl_vecCopy)))]
theorem e12_ok : EnvOK Try.prog e12 := mkEnv_ok (by
  intro p hp
  simp only [List.mem_cons, List.not_mem_nil, or_false] at hp
  rcases hp with rfl | rfl
  · exact o55
  · exact o56) (by
  intro p hp
  simp only [List.mem_cons, List.not_mem_nil, or_false] at hp
  subst hp
  exact y57)
theorem w12_pur : ∀ c, opens Ap c = true → PurEnv e12 c := mkEnv_pur _ _ (by
  intro p hp
  simp only [List.mem_cons, List.not_mem_nil, or_false] at hp
  subst hp
  intro _; exact ownFn_app)
theorem u12_55 : e12 (2 * 55) = pureFn true (FA fun a : TCounter => p_impl_counterOK a) := by
  unfold e12
  exact mkEnv_at (by rfl)
theorem u12_56 : e12 (2 * 56) = pureFn true (FA fun a : Int => p_impl_isActor a) := by
  unfold e12
  exact mkEnv_at (by rfl)
theorem x12_57 : k_impl_vecCopy (e12 (2 * 57 + 1)) := by
  unfold e12
  rw [mkEnv_own (g := (ownFn Try.prog e57 (c_impl_vecCopy))) (by rfl)]
  exact ko_impl_vecCopy
theorem y12 : FunOK Try.prog 12 (ownFn Try.prog e12 (c_impl_CounterAdd 55 56 57)) := ownFn_ok e12_ok w12_pur (md := Md) (by kernel_rfl) (by kernel_rfl)
noncomputable def e19 : Env := mkEnv [] []
theorem e19_ok : EnvOK Try.prog e19 := mkEnv_ok (by intro p hp; cases hp) (by intro p hp; cases hp)
theorem w19_pur : ∀ c, opens Ap c = true → PurEnv e19 c := mkEnv_pur _ _ (by intro p hp; cases hp)
theorem o19 : PureOK Try.prog 19 true (FA fun a : List Int × List Int => p_laws_eqIntS a.1 a.2) := pure_tells e19_ok w19_pur (md := Md) (by kernel_rfl) (A := c_laws_eqIntS) (by kernel_rfl) (by
  rintro ⟨x, y⟩ b hb
  exact d_laws_eqIntS x y hb)
noncomputable def e58 : Env := mkEnv [(19, true, FA fun a : List Int × List Int => p_laws_eqIntS a.1 a.2)] []
theorem e58_ok : EnvOK Try.prog e58 := mkEnv_ok (by
  intro p hp
  simp only [List.mem_cons, List.not_mem_nil, or_false] at hp
  subst hp
  exact o19) (by intro p hp; cases hp)
theorem w58_pur : ∀ c, opens Ap c = true → PurEnv e58 c := mkEnv_pur _ _ (by intro p hp; cases hp)
theorem u58_19 : e58 (2 * 19) = pureFn true (FA fun a : List Int × List Int => p_laws_eqIntS a.1 a.2) := by
  unfold e58
  exact mkEnv_at (by rfl)
theorem o58 : PureOK Try.prog 58 true (FA fun a : TVec × TVec => p_laws_eqVector a.1 a.2) := pure_tells e58_ok w58_pur (md := Md) (by kernel_rfl) (A := c_laws_eqVector 19) (by kernel_rfl) (by
  rintro ⟨x, y⟩ b hb
  exact d_laws_eqVector u58_19 x y hb)
noncomputable def e13 : Env := mkEnv [(58, true, FA fun a : TVec × TVec => p_laws_eqVector a.1 a.2)] []
theorem e13_ok : EnvOK Try.prog e13 := mkEnv_ok (by
  intro p hp
  simp only [List.mem_cons, List.not_mem_nil, or_false] at hp
  subst hp
  exact o58) (by intro p hp; cases hp)
theorem w13_pur : ∀ c, opens Ap c = true → PurEnv e13 c := mkEnv_pur _ _ (by intro p hp; cases hp)
theorem u13_58 : e13 (2 * 58) = pureFn true (FA fun a : TVec × TVec => p_laws_eqVector a.1 a.2) := by
  unfold e13
  exact mkEnv_at (by rfl)
theorem o13 : PureOK Try.prog 13 true (FA fun a : TCounter × TCounter => p_laws_eqCounter a.1 a.2) := pure_tells e13_ok w13_pur (md := Md) (by kernel_rfl) (A := c_laws_eqCounter 58) (by kernel_rfl) (by
  rintro ⟨x, y⟩ b hb
  exact d_laws_eqCounter u13_58 x y hb)
noncomputable def e22 : Env := mkEnv [] []
theorem e22_ok : EnvOK Try.prog e22 := mkEnv_ok (by intro p hp; cases hp) (by intro p hp; cases hp)
theorem w22_pur : ∀ c, opens Ap c = true → PurEnv e22 c := mkEnv_pur _ _ (by intro p hp; cases hp)
theorem y22 : FunOK Try.prog 22 (runIn Try.prog e22 (c_laws_markIntS)) := runIn_ok e22_ok w22_pur (md := Md) (by kernel_rfl) (by kernel_rfl)
noncomputable def e59 : Env := mkEnv [] [(22, (runIn Try.prog e22 (c_laws_markIntS)))]
theorem e59_ok : EnvOK Try.prog e59 := mkEnv_ok (by intro p hp; cases hp) (by
  intro p hp
  simp only [List.mem_cons, List.not_mem_nil, or_false] at hp
  subst hp
  exact y22)
theorem w59_pur : ∀ c, opens Ap c = true → PurEnv e59 c := mkEnv_pur _ _ (by
  intro p hp
  simp only [List.mem_cons, List.not_mem_nil, or_false] at hp
  subst hp
  intro h; exact absurd h (by rw [show Ap 22 = false from rfl]; exact Bool.false_ne_true))
theorem x59_22 : k_laws_markIntS (e59 (2 * 22 + 1)) := by
  unfold e59
  rw [mkEnv_own (g := (runIn Try.prog e22 (c_laws_markIntS))) (by rfl)]
  exact ko_laws_markIntS
theorem y59 : FunOK Try.prog 59 (runIn Try.prog e59 (c_laws_markVector 22)) := runIn_ok e59_ok w59_pur (md := Md) (by kernel_rfl) (by kernel_rfl)
noncomputable def e14 : Env := mkEnv [] [(59, (runIn Try.prog e59 (c_laws_markVector 22)))]
theorem e14_ok : EnvOK Try.prog e14 := mkEnv_ok (by intro p hp; cases hp) (by
  intro p hp
  simp only [List.mem_cons, List.not_mem_nil, or_false] at hp
  subst hp
  exact y59)
theorem w14_pur : ∀ c, opens Ap c = true → PurEnv e14 c := mkEnv_pur _ _ (by
  intro p hp
  simp only [List.mem_cons, List.not_mem_nil, or_false] at hp
  subst hp
  intro h; exact absurd h (by rw [show Ap 59 = false from rfl]; exact Bool.false_ne_true))
theorem x14_59 : k_laws_markVector (e14 (2 * 59 + 1)) := by
  unfold e14
  rw [mkEnv_own (g := (runIn Try.prog e59 (c_laws_markVector 22))) (by rfl)]
  exact ko_laws_markVector x59_22
theorem y14 : FunOK Try.prog 14 (runIn Try.prog e14 (c_laws_markCounter 59)) := runIn_ok e14_ok w14_pur (md := Md) (by kernel_rfl) (by kernel_rfl)
noncomputable def e23 : Env := mkEnv [] []
theorem e23_ok : EnvOK Try.prog e23 := mkEnv_ok (by intro p hp; cases hp) (by intro p hp; cases hp)
theorem w23_pur : ∀ c, opens Ap c = true → PurEnv e23 c := mkEnv_pur _ _ (by intro p hp; cases hp)
theorem o23 : PureOK Try.prog 23 true (FA fun a : List Int × Int => p_laws_heldIntS a.1 a.2) := pure_tells e23_ok w23_pur (md := Md) (by kernel_rfl) (A := c_laws_heldIntS) (by kernel_rfl) (by
  rintro ⟨x, y⟩ b hb
  exact d_laws_heldIntS x y hb)
noncomputable def e60 : Env := mkEnv [(23, true, FA fun a : List Int × Int => p_laws_heldIntS a.1 a.2)] []
theorem e60_ok : EnvOK Try.prog e60 := mkEnv_ok (by
  intro p hp
  simp only [List.mem_cons, List.not_mem_nil, or_false] at hp
  subst hp
  exact o23) (by intro p hp; cases hp)
theorem w60_pur : ∀ c, opens Ap c = true → PurEnv e60 c := mkEnv_pur _ _ (by intro p hp; cases hp)
theorem u60_23 : e60 (2 * 23) = pureFn true (FA fun a : List Int × Int => p_laws_heldIntS a.1 a.2) := by
  unfold e60
  exact mkEnv_at (by rfl)
theorem o60 : PureOK Try.prog 60 true (FA fun a : TVec × Int => p_laws_heldVector a.1 a.2) := pure_tells e60_ok w60_pur (md := Md) (by kernel_rfl) (A := c_laws_heldVector 23) (by kernel_rfl) (by
  rintro ⟨x, y⟩ b hb
  exact d_laws_heldVector u60_23 x y hb)
noncomputable def e15 : Env := mkEnv [(60, true, FA fun a : TVec × Int => p_laws_heldVector a.1 a.2)] []
theorem e15_ok : EnvOK Try.prog e15 := mkEnv_ok (by
  intro p hp
  simp only [List.mem_cons, List.not_mem_nil, or_false] at hp
  subst hp
  exact o60) (by intro p hp; cases hp)
theorem w15_pur : ∀ c, opens Ap c = true → PurEnv e15 c := mkEnv_pur _ _ (by intro p hp; cases hp)
theorem u15_60 : e15 (2 * 60) = pureFn true (FA fun a : TVec × Int => p_laws_heldVector a.1 a.2) := by
  unfold e15
  exact mkEnv_at (by rfl)
theorem o15 : PureOK Try.prog 15 true (FA fun a : TCounter × Int => p_laws_heldCounter a.1 a.2) := pure_tells e15_ok w15_pur (md := Md) (by kernel_rfl) (A := c_laws_heldCounter 60) (by kernel_rfl) (by
  rintro ⟨x, y⟩ b hb
  exact d_laws_heldCounter u15_60 x y hb)
noncomputable def e3 : Env := mkEnv [(9, true, FA fun a : TCounter × Int => p_laws_szCounter a.1 a.2), (11, true, FA fun a : TCounter => p_laws_toCounter a), (10, true, FA fun a : TCounter × Int × Int => p_spec_CounterAdd a.1 a.2.1 a.2.2), (13, true, FA fun a : TCounter × TCounter => p_laws_eqCounter a.1 a.2), (15, true, FA fun a : TCounter × Int => p_laws_heldCounter a.1 a.2)] [(11, (ownFn Try.prog e11 (c_laws_toCounter 54))), (12, (ownFn Try.prog e12 (c_impl_CounterAdd 55 56 57))), (14, (runIn Try.prog e14 (c_laws_markCounter 59)))]
theorem e3_ok : EnvOK Try.prog e3 := mkEnv_ok (by
  intro p hp
  simp only [List.mem_cons, List.not_mem_nil, or_false] at hp
  rcases hp with rfl | rfl | rfl | rfl | rfl
  · exact o9
  · exact o11
  · exact o10
  · exact o13
  · exact o15) (by
  intro p hp
  simp only [List.mem_cons, List.not_mem_nil, or_false] at hp
  rcases hp with rfl | rfl | rfl
  · exact y11
  · exact y12
  · exact y14)
theorem w3_pur : ∀ c, opens ApL c = true → PurEnv e3 c := mkEnv_pur _ _ (by
  intro p hp
  simp only [List.mem_cons, List.not_mem_nil, or_false] at hp
  rcases hp with rfl | rfl | rfl
  · intro h; exact absurd h (by rw [show ApL 11 = false from rfl]; exact Bool.false_ne_true)
  · intro h; exact absurd h (by rw [show ApL 12 = false from rfl]; exact Bool.false_ne_true)
  · intro h; exact absurd h (by rw [show ApL 14 = false from rfl]; exact Bool.false_ne_true))
theorem u3_9 : e3 (2 * 9) = pureFn true (FA fun a : TCounter × Int => p_laws_szCounter a.1 a.2) := by
  unfold e3
  exact mkEnv_at (by rfl)
theorem u3_11 : e3 (2 * 11) = pureFn true (FA fun a : TCounter => p_laws_toCounter a) := by
  unfold e3
  exact mkEnv_at (by rfl)
theorem u3_10 : e3 (2 * 10) = pureFn true (FA fun a : TCounter × Int × Int => p_spec_CounterAdd a.1 a.2.1 a.2.2) := by
  unfold e3
  exact mkEnv_at (by rfl)
theorem u3_13 : e3 (2 * 13) = pureFn true (FA fun a : TCounter × TCounter => p_laws_eqCounter a.1 a.2) := by
  unfold e3
  exact mkEnv_at (by rfl)
theorem u3_15 : e3 (2 * 15) = pureFn true (FA fun a : TCounter × Int => p_laws_heldCounter a.1 a.2) := by
  unfold e3
  exact mkEnv_at (by rfl)
theorem x3_11 : k_laws_toCounter (e3 (2 * 11 + 1)) := by
  unfold e3
  rw [mkEnv_own (g := (ownFn Try.prog e11 (c_laws_toCounter 54))) (by rfl)]
  exact ko_laws_toCounter x11_54
theorem x3_12 : k_impl_CounterAdd (e3 (2 * 12 + 1)) := by
  unfold e3
  rw [mkEnv_own (g := (ownFn Try.prog e12 (c_impl_CounterAdd 55 56 57))) (by rfl)]
  exact ko_impl_CounterAdd u12_55 u12_56 x12_57
theorem x3_14 : k_laws_markCounter (e3 (2 * 14 + 1)) := by
  unfold e3
  rw [mkEnv_own (g := (runIn Try.prog e14 (c_laws_markCounter 59))) (by rfl)]
  exact ko_laws_markCounter x14_59
theorem law : LawOK Try.prog 3 [.st [.st [.sl 8 (.int .i64)], .st [.sl 8 (.int .i64)]], .int .i64, .int .i64] := law_of_run e3_ok w3_pur (md := MdL) (A := c_laws_FnExactCounterAdd 9 11 10 12 13 14 15) (by kernel_rfl) (by
  intro xs hx
  cases hx with
  | cons h0 hx =>
  cases hx with
  | cons h1 hx =>
  cases hx with
  | cons h2 hx =>
  cases hx
  obtain ⟨a0, rfl, k0⟩ := fit_TCounter h0
  obtain ⟨a1, rfl, k1⟩ := fit_int h1
  obtain ⟨a2, rfl, k2⟩ := fit_int h2
  exact d_laws_FnExactCounterAdd u3_9 u3_11 u3_10 u3_13 u3_15 x3_11 x3_12 x3_14 a0 a1 a2 (plain_CounterAdd a0 a1 a2 k0 k1 k2))
theorem own : ownKnob Try.prog.godebug = none := by kernel_rfl
theorem laidOut : laidOutB Try.prog = true := by kernel_rfl
set_option maxRecDepth 100000 in
theorem lifted (os : Os) (started : os.Started) (H : Type) (enc : TypeId × Value → H) :
    ReturnsInHanded {} Try.checked os 3 .any (Rows.fnExactCounterAddSpec.pre6 enc Try.prog Try.f3 Rows.fnExactCounterAddRow.domain false) (Rows.fnExactCounterAddSpec.post enc Try.prog Try.f3 false true false false) := by
  refine returnsInHanded_of_change_sized (C := Try.checked) own started (by kernel_rfl) Try.func3
    (ChangeSpec.witness6 (enc := enc) (C := Try.checked) false ⟨#[], #[.agg #[.slice none 0 0, .slice none 0 0], .int .i64 0, .int .i64 0], []⟩ 8 (by kernel_rfl) (by kernel_rfl) (by kernel_rfl) (by kernel_rfl)) ?_
  intro W base args ds gs before hval hW hcnd hsz _
  refine law_contract (n := 8) (tb := 4) (shs := [.st [.st [.sl 8 (.int .i64)], .st [.sl 8 (.int .i64)]], .int .i64, .int .i64]) laidOut rfl ?_ (by kernel_rfl) Try.underlying4 (by kernel_rfl) (by kernel_rfl) law W base args ds gs before hval hW hsz
  intro ds hds
  have h1 : ds.length = 3 := hds
  match ds, h1 with
  | [d0, d1, d2], _ => rfl
theorem over : Rows.fnExactCounterAddRow.holds Try.pinned (OpenSpec.ofChange Rows.fnExactCounterAddSpec) :=
  OpenClaim.holds_of_wide 3 Try.f3 rfl rfl rfl rfl rfl rfl rfl ⟨rfl, rfl, rfl, rfl, rfl⟩ rfl rfl rfl rfl rfl (by kernel_rfl) Try.func3 (by kernel_rfl)
    (of_decide_eq_true (by kernel_rfl)) (by unfold Func.isWrapper; first | (rw [if_pos (by decide +kernel)]; kernel_rfl) | (rw [if_neg (by decide +kernel)]; exact ⟨rfl, rfl⟩))
    (fun os started H enc _ => lifted os started H enc)
theorem proved : Rows.FnExactCounterAddSaid := over
#print axioms proved
end Go.Proofs.Ytogokiglmhnjkaa.RFnExactCounterAdd
namespace Go.Proofs.Ytogokiglmhnjkaa
/-- The row, under a short name, for the claim. -/
theorem fnExactCounterAdd_holds : Rows.FnExactCounterAddSaid := RFnExactCounterAdd.proved
end Go.Proofs.Ytogokiglmhnjkaa
