/- The law FnExactLogAt: its functions' contracts, its run, its row. No condition. -/
import Derived.Test.YtiabacjkejkbgaaRows
import Derived.Test.YtiabacjkejkbgaaLabPLogAt
import Derived.WalkKit
import Derived.ProofKit
set_option linter.unusedVariables false
namespace Go.Proofs.Ytiabacjkejkbgaa.RFnExactLogAt
open Go.AM
open Pic (enc dec dec_enc dec_sub)
def Md : Modes := fun f => if f == 16 then 4 else if f == 17 then 1 else if f == 20 then 4 else if f == 21 then 1 else if f == 23 then 2 else if f == 24 then 2 else if f == 26 then 4 else if f == 27 then 1 else if f == 29 then 2 else if f == 31 then 4 else if f == 32 then 1 else if f == 34 then 4 else if f == 35 then 1 else if f == 36 then 1 else if f == 38 then 4 else if f == 39 then 1 else if f == 40 then 4 else if f == 41 then 1 else if f == 42 then 4 else if f == 43 then 1 else if f == 44 then 4 else if f == 45 then 1 else if f == 47 then 2 else if f == 49 then 4 else if f == 50 then 1 else if f == 52 then 4 else if f == 53 then 1 else if f == 54 then 1 else if f == 55 then 4 else if f == 56 then 1 else if f == 62 then 1 else if f == 65 then 1 else if f == 72 then 4 else if f == 74 then 1 else if f == 76 then 1 else if f == 78 then 4 else if f == 80 then 1 else if f == 83 then 1 else if f == 84 then 1 else if f == 89 then 2 else if f == 94 then 1 else if f == 99 then 1 else if f == 102 then 2 else if f == 110 then 2 else if f == 112 then 4 else if f == 114 then 4 else if f == 116 then 1 else if f == 122 then 1 else if f == 123 then 1 else if f == 139 then 4 else if f == 140 then 2 else if f == 144 then 2 else 0
def Ap : Nat → Bool := fun f => Md f == 1
def MdL : Modes := fun f => if Md f == 1 then 3 else Md f
def ApL : Nat → Bool := fun f => MdL f == 1
noncomputable def e71 : Env := mkEnv [] []
theorem e71_ok : EnvOK Try.prog e71 := mkEnv_ok (by intro p hp; cases hp) (by intro p hp; cases hp)
theorem w71_pur : ∀ c, opens Ap c = true → PurEnv e71 c := mkEnv_pur _ _ (by intro p hp; cases hp)
theorem o71 : PureOK Try.prog 71 true (FA fun a : List Int × Int => p_laws_szIntS a.1 a.2) := pure_tells e71_ok w71_pur (md := Md) (by kernel_rfl) (A := c_laws_szIntS) (by kernel_rfl) (by
  rintro ⟨x, y⟩ b hb
  exact d_laws_szIntS x y hb)
noncomputable def e33 : Env := mkEnv [(71, true, FA fun a : List Int × Int => p_laws_szIntS a.1 a.2)] []
theorem e33_ok : EnvOK Try.prog e33 := mkEnv_ok (by
  intro p hp
  simp only [List.mem_cons, List.not_mem_nil, or_false] at hp
  subst hp
  exact o71) (by intro p hp; cases hp)
theorem w33_pur : ∀ c, opens Ap c = true → PurEnv e33 c := mkEnv_pur _ _ (by intro p hp; cases hp)
theorem u33_71 : e33 (2 * 71) = pureFn true (FA fun a : List Int × Int => p_laws_szIntS a.1 a.2) := by
  unfold e33
  exact mkEnv_at (by rfl)
theorem o33 : PureOK Try.prog 33 true (FA fun a : TVec × Int => p_laws_szVector a.1 a.2) := pure_tells e33_ok w33_pur (md := Md) (by kernel_rfl) (A := c_laws_szVector 71) (by kernel_rfl) (by
  rintro ⟨x, y⟩ b hb
  exact d_laws_szVector u33_71 x y hb)
noncomputable def e57 : Env := mkEnv [(33, true, FA fun a : TVec × Int => p_laws_szVector a.1 a.2)] []
theorem e57_ok : EnvOK Try.prog e57 := mkEnv_ok (by
  intro p hp
  simp only [List.mem_cons, List.not_mem_nil, or_false] at hp
  subst hp
  exact o33) (by intro p hp; cases hp)
theorem w57_pur : ∀ c, opens Ap c = true → PurEnv e57 c := mkEnv_pur _ _ (by intro p hp; cases hp)
theorem u57_33 : e57 (2 * 33) = pureFn true (FA fun a : TVec × Int => p_laws_szVector a.1 a.2) := by
  unfold e57
  exact mkEnv_at (by rfl)
theorem o57 : PureOK Try.prog 57 true (FA fun a : TOp × Int => p_laws_szOp a.1 a.2) := pure_tells e57_ok w57_pur (md := Md) (by kernel_rfl) (A := c_laws_szOp 33) (by kernel_rfl) (by
  rintro ⟨x, y⟩ b hb
  exact d_laws_szOp u57_33 x y hb)
noncomputable def e15 : Env := mkEnv [(57, true, FA fun a : TOp × Int => p_laws_szOp a.1 a.2)] []
theorem e15_ok : EnvOK Try.prog e15 := mkEnv_ok (by
  intro p hp
  simp only [List.mem_cons, List.not_mem_nil, or_false] at hp
  subst hp
  exact o57) (by intro p hp; cases hp)
theorem w15_pur : ∀ c, opens Ap c = true → PurEnv e15 c := mkEnv_pur _ _ (by intro p hp; cases hp)
theorem u15_57 : e15 (2 * 57) = pureFn true (FA fun a : TOp × Int => p_laws_szOp a.1 a.2) := by
  unfold e15
  exact mkEnv_at (by rfl)
theorem o15 : PureOK Try.prog 15 true (FA fun a : List TOp × Int => p_laws_szOpS a.1 a.2) := pure_tells e15_ok w15_pur (md := Md) (by kernel_rfl) (A := c_laws_szOpS 57) (by kernel_rfl) (by
  rintro ⟨x, y⟩ b hb
  exact d_laws_szOpS u15_57 x y hb)
noncomputable def e74 : Env := mkEnv [] []
theorem e74_ok : EnvOK Try.prog e74 := mkEnv_ok (by intro p hp; cases hp) (by intro p hp; cases hp)
theorem w74_pur : ∀ c, opens Ap c = true → PurEnv e74 c := mkEnv_pur _ _ (by intro p hp; cases hp)
theorem y74 : FunOK Try.prog 74 (ownFn Try.prog e74 (c_laws_toIntS)) := ownFn_ok e74_ok w74_pur (md := Md) (by kernel_rfl) (by kernel_rfl)
noncomputable def e35 : Env := mkEnv [] [(74, (ownFn Try.prog e74 (c_laws_toIntS)))]
theorem e35_ok : EnvOK Try.prog e35 := mkEnv_ok (by intro p hp; cases hp) (by
  intro p hp
  simp only [List.mem_cons, List.not_mem_nil, or_false] at hp
  subst hp
  exact y74)
theorem w35_pur : ∀ c, opens Ap c = true → PurEnv e35 c := mkEnv_pur _ _ (by
  intro p hp
  simp only [List.mem_cons, List.not_mem_nil, or_false] at hp
  subst hp
  intro _; exact ownFn_app)
theorem x35_74 : k_laws_toIntS (e35 (2 * 74 + 1)) := by
  unfold e35
  rw [mkEnv_own (g := (ownFn Try.prog e74 (c_laws_toIntS))) (by rfl)]
  exact ko_laws_toIntS
theorem o35 : PureOK Try.prog 35 true (FA fun a : TVec => p_laws_toVector a) := pure_tells e35_ok w35_pur (md := Md) (by kernel_rfl) (A := c_laws_toVector 74) (by kernel_rfl) (by
  rintro x b hb
  exact d_laws_toVector x35_74 x hb)
theorem y35 : FunOK Try.prog 35 (ownFn Try.prog e35 (c_laws_toVector 74)) := ownFn_ok e35_ok w35_pur (md := Md) (by kernel_rfl) (by kernel_rfl)
noncomputable def e117 : Env := mkEnv [] []
theorem e117_ok : EnvOK Try.prog e117 := mkEnv_ok (by intro p hp; cases hp) (by intro p hp; cases hp)
theorem w117_pur : ∀ c, opens Ap c = true → PurEnv e117 c := mkEnv_pur _ _ (by intro p hp; cases hp)
theorem o117 : PureOK Try.prog 117 true (FA fun a : TStamp => p_laws_toStamp a) := pure_tells e117_ok w117_pur (md := Md) (by kernel_rfl) (A := c_laws_toStamp) (by kernel_rfl) (by
  rintro x b hb
  exact d_laws_toStamp x hb)
noncomputable def e62 : Env := mkEnv [(117, true, FA fun a : TStamp => p_laws_toStamp a)] [(35, (ownFn Try.prog e35 (c_laws_toVector 74)))]
theorem e62_ok : EnvOK Try.prog e62 := mkEnv_ok (by
  intro p hp
  simp only [List.mem_cons, List.not_mem_nil, or_false] at hp
  subst hp
  exact o117) (by
  intro p hp
  simp only [List.mem_cons, List.not_mem_nil, or_false] at hp
  subst hp
  exact y35)
theorem w62_pur : ∀ c, opens Ap c = true → PurEnv e62 c := mkEnv_pur _ _ (by
  intro p hp
  simp only [List.mem_cons, List.not_mem_nil, or_false] at hp
  subst hp
  intro _; exact ownFn_app)
theorem u62_117 : e62 (2 * 117) = pureFn true (FA fun a : TStamp => p_laws_toStamp a) := by
  unfold e62
  exact mkEnv_at (by rfl)
theorem x62_35 : k_laws_toVector (e62 (2 * 35 + 1)) := by
  unfold e62
  rw [mkEnv_own (g := (ownFn Try.prog e35 (c_laws_toVector 74))) (by rfl)]
  exact ko_laws_toVector x35_74
theorem y62 : FunOK Try.prog 62 (ownFn Try.prog e62 (c_laws_toOp 35 117)) := ownFn_ok e62_ok w62_pur (md := Md) (by kernel_rfl) (by kernel_rfl)
noncomputable def e17 : Env := mkEnv [] [(62, (ownFn Try.prog e62 (c_laws_toOp 35 117)))]
theorem e17_ok : EnvOK Try.prog e17 := mkEnv_ok (by intro p hp; cases hp) (by
  intro p hp
  simp only [List.mem_cons, List.not_mem_nil, or_false] at hp
  subst hp
  exact y62)
theorem w17_pur : ∀ c, opens Ap c = true → PurEnv e17 c := mkEnv_pur _ _ (by
  intro p hp
  simp only [List.mem_cons, List.not_mem_nil, or_false] at hp
  subst hp
  intro _; exact ownFn_app)
theorem x17_62 : k_laws_toOp (e17 (2 * 62 + 1)) := by
  unfold e17
  rw [mkEnv_own (g := (ownFn Try.prog e62 (c_laws_toOp 35 117))) (by rfl)]
  exact ko_laws_toOp u62_117 x62_35
theorem o17 : PureOK Try.prog 17 false (FA fun a : List TOp => p_laws_toOpS a) := pure_tells e17_ok w17_pur (md := Md) (by kernel_rfl) (A := c_laws_toOpS 62) (by kernel_rfl) (by
  rintro x b hb
  exact d_laws_toOpS x17_62 x hb)
theorem y17 : FunOK Try.prog 17 (ownFn Try.prog e17 (c_laws_toOpS 62)) := ownFn_ok e17_ok w17_pur (md := Md) (by kernel_rfl) (by kernel_rfl)
noncomputable def e111 : Env := mkEnv [] []
theorem e111_ok : EnvOK Try.prog e111 := mkEnv_ok (by intro p hp; cases hp) (by intro p hp; cases hp)
theorem w111_pur : ∀ c, opens Ap c = true → PurEnv e111 c := mkEnv_pur _ _ (by intro p hp; cases hp)
theorem o111 : PureOK Try.prog 111 true (FA fun a : TOp => p_spec_l08Stamp a) := pure_tells e111_ok w111_pur (md := Md) (by kernel_rfl) (A := c_spec_l08Stamp) (by kernel_rfl) (by
  rintro x b hb
  exact d_spec_l08Stamp x hb)
noncomputable def e112 : Env := mkEnv [] []
theorem e112_ok : EnvOK Try.prog e112 := mkEnv_ok (by intro p hp; cases hp) (by intro p hp; cases hp)
theorem w112_pur : ∀ c, opens Ap c = true → PurEnv e112 c := mkEnv_pur _ _ (by intro p hp; cases hp)
theorem o112 : PureOK Try.prog 112 true (FA fun a : TStamp => p_spec_StampOK a) := pure_tells e112_ok w112_pur (md := Md) (by kernel_rfl) (A := c_spec_StampOK) (by kernel_rfl) (by
  rintro x b hb
  exact d_spec_StampOK x hb)
noncomputable def e72 : Env := mkEnv [] []
theorem e72_ok : EnvOK Try.prog e72 := mkEnv_ok (by intro p hp; cases hp) (by intro p hp; cases hp)
theorem w72_pur : ∀ c, opens Ap c = true → PurEnv e72 c := mkEnv_pur _ _ (by intro p hp; cases hp)
theorem o72 : PureOK Try.prog 72 true (FA fun a : TVec => p_spec_VecOK a) := pure_tells e72_ok w72_pur (md := Md) (by kernel_rfl) (A := c_spec_VecOK) (by kernel_rfl) (by
  rintro x b hb
  exact d_spec_VecOK x hb)
noncomputable def e113 : Env := mkEnv [] []
theorem e113_ok : EnvOK Try.prog e113 := mkEnv_ok (by intro p hp; cases hp) (by intro p hp; cases hp)
theorem w113_pur : ∀ c, opens Ap c = true → PurEnv e113 c := mkEnv_pur _ _ (by intro p hp; cases hp)
theorem o113 : PureOK Try.prog 113 true (FA fun a : TStamp => p_spec_l02None a) := pure_tells e113_ok w113_pur (md := Md) (by kernel_rfl) (A := c_spec_l02None) (by kernel_rfl) (by
  rintro x b hb
  exact d_spec_l02None x hb)
noncomputable def e114 : Env := mkEnv [] []
theorem e114_ok : EnvOK Try.prog e114 := mkEnv_ok (by intro p hp; cases hp) (by intro p hp; cases hp)
theorem w114_pur : ∀ c, opens Ap c = true → PurEnv e114 c := mkEnv_pur _ _ (by intro p hp; cases hp)
theorem o114 : PureOK Try.prog 114 true (FA fun a : TStamp × TStamp => p_spec_StampLess a.1 a.2) := pure_tells e114_ok w114_pur (md := Md) (by kernel_rfl) (A := c_spec_StampLess) (by kernel_rfl) (by
  rintro ⟨x, y⟩ b hb
  exact d_spec_StampLess x y hb)
noncomputable def e115 : Env := mkEnv [] []
theorem e115_ok : EnvOK Try.prog e115 := mkEnv_ok (by intro p hp; cases hp) (by intro p hp; cases hp)
theorem w115_pur : ∀ c, opens Ap c = true → PurEnv e115 c := mkEnv_pur _ _ (by intro p hp; cases hp)
theorem o115 : PureOK Try.prog 115 true (FA fun a : Int => p_spec_l04Char a) := pure_tells e115_ok w115_pur (md := Md) (by kernel_rfl) (A := c_spec_l04Char) (by kernel_rfl) (by
  rintro x b hb
  exact d_spec_l04Char x hb)
noncomputable def e58 : Env := mkEnv [(111, true, FA fun a : TOp => p_spec_l08Stamp a), (112, true, FA fun a : TStamp => p_spec_StampOK a), (72, true, FA fun a : TVec => p_spec_VecOK a), (113, true, FA fun a : TStamp => p_spec_l02None a), (114, true, FA fun a : TStamp × TStamp => p_spec_StampLess a.1 a.2), (115, true, FA fun a : Int => p_spec_l04Char a)] []
theorem e58_ok : EnvOK Try.prog e58 := mkEnv_ok (by
  intro p hp
  simp only [List.mem_cons, List.not_mem_nil, or_false] at hp
  rcases hp with rfl | rfl | rfl | rfl | rfl | rfl
  · exact o111
  · exact o112
  · exact o72
  · exact o113
  · exact o114
  · exact o115) (by intro p hp; cases hp)
theorem w58_pur : ∀ c, opens Ap c = true → PurEnv e58 c := mkEnv_pur _ _ (by intro p hp; cases hp)
theorem u58_111 : e58 (2 * 111) = pureFn true (FA fun a : TOp => p_spec_l08Stamp a) := by
  unfold e58
  exact mkEnv_at (by rfl)
theorem u58_112 : e58 (2 * 112) = pureFn true (FA fun a : TStamp => p_spec_StampOK a) := by
  unfold e58
  exact mkEnv_at (by rfl)
theorem u58_72 : e58 (2 * 72) = pureFn true (FA fun a : TVec => p_spec_VecOK a) := by
  unfold e58
  exact mkEnv_at (by rfl)
theorem u58_113 : e58 (2 * 113) = pureFn true (FA fun a : TStamp => p_spec_l02None a) := by
  unfold e58
  exact mkEnv_at (by rfl)
theorem u58_114 : e58 (2 * 114) = pureFn true (FA fun a : TStamp × TStamp => p_spec_StampLess a.1 a.2) := by
  unfold e58
  exact mkEnv_at (by rfl)
theorem u58_115 : e58 (2 * 115) = pureFn true (FA fun a : Int => p_spec_l04Char a) := by
  unfold e58
  exact mkEnv_at (by rfl)
theorem o58 : PureOK Try.prog 58 true (FA fun a : TOp => p_spec_l08OpOK a) := pure_tells e58_ok w58_pur (md := Md) (by kernel_rfl) (A := c_spec_l08OpOK 111 112 72 113 114 115) (by kernel_rfl) (by
  rintro x b hb
  exact d_spec_l08OpOK u58_111 u58_112 u58_72 u58_113 u58_115 u58_114 x hb)
noncomputable def e116 : Env := mkEnv [] []
theorem e116_ok : EnvOK Try.prog e116 := mkEnv_ok (by intro p hp; cases hp) (by intro p hp; cases hp)
theorem w116_pur : ∀ c, opens Ap c = true → PurEnv e116 c := mkEnv_pur _ _ (by intro p hp; cases hp)
theorem y116 : FunOK Try.prog 116 (ownFn Try.prog e116 (c_spec_l02New)) := ownFn_ok e116_ok w116_pur (md := Md) (by kernel_rfl) (by kernel_rfl)
noncomputable def e59 : Env := mkEnv [] [(116, (ownFn Try.prog e116 (c_spec_l02New)))]
theorem e59_ok : EnvOK Try.prog e59 := mkEnv_ok (by intro p hp; cases hp) (by
  intro p hp
  simp only [List.mem_cons, List.not_mem_nil, or_false] at hp
  subst hp
  exact y116)
theorem w59_pur : ∀ c, opens Ap c = true → PurEnv e59 c := mkEnv_pur _ _ (by
  intro p hp
  simp only [List.mem_cons, List.not_mem_nil, or_false] at hp
  subst hp
  intro _; exact ownFn_app)
theorem x59_116 : k_spec_l02New (e59 (2 * 116 + 1)) := by
  unfold e59
  rw [mkEnv_own (g := (ownFn Try.prog e116 (c_spec_l02New))) (by rfl)]
  exact ko_spec_l02New
theorem o59 : PureOK Try.prog 59 true (FA fun a : List TOp => p_spec_l08Counts a) := pure_tells e59_ok w59_pur (md := Md) (by kernel_rfl) (A := c_spec_l08Counts 116) (by kernel_rfl) (by
  rintro x b hb
  exact d_spec_l08Counts x59_116 x hb)
noncomputable def e104 : Env := mkEnv [] []
theorem e104_ok : EnvOK Try.prog e104 := mkEnv_ok (by intro p hp; cases hp) (by intro p hp; cases hp)
theorem w104_pur : ∀ c, opens Ap c = true → PurEnv e104 c := mkEnv_pur _ _ (by intro p hp; cases hp)
theorem o104 : PureOK Try.prog 104 true (FA fun a : List TOp × Int × Int => p_spec_l08Find a.1 a.2.1 a.2.2) := pure_tells e104_ok w104_pur (md := Md) (by kernel_rfl) (A := c_spec_l08Find) (by kernel_rfl) (by
  rintro ⟨x, y, z⟩ b hb
  exact d_spec_l08Find x y z hb)
noncomputable def e60 : Env := mkEnv [(104, true, FA fun a : List TOp × Int × Int => p_spec_l08Find a.1 a.2.1 a.2.2), (111, true, FA fun a : TOp => p_spec_l08Stamp a), (114, true, FA fun a : TStamp × TStamp => p_spec_StampLess a.1 a.2)] []
theorem e60_ok : EnvOK Try.prog e60 := mkEnv_ok (by
  intro p hp
  simp only [List.mem_cons, List.not_mem_nil, or_false] at hp
  rcases hp with rfl | rfl | rfl
  · exact o104
  · exact o111
  · exact o114) (by intro p hp; cases hp)
theorem w60_pur : ∀ c, opens Ap c = true → PurEnv e60 c := mkEnv_pur _ _ (by intro p hp; cases hp)
theorem u60_104 : e60 (2 * 104) = pureFn true (FA fun a : List TOp × Int × Int => p_spec_l08Find a.1 a.2.1 a.2.2) := by
  unfold e60
  exact mkEnv_at (by rfl)
theorem u60_111 : e60 (2 * 111) = pureFn true (FA fun a : TOp => p_spec_l08Stamp a) := by
  unfold e60
  exact mkEnv_at (by rfl)
theorem u60_114 : e60 (2 * 114) = pureFn true (FA fun a : TStamp × TStamp => p_spec_StampLess a.1 a.2) := by
  unfold e60
  exact mkEnv_at (by rfl)
theorem o60 : PureOK Try.prog 60 true (FA fun a : List TOp × TVec × TOp => p_spec_l08Causes a.1 a.2.1 a.2.2) := pure_tells e60_ok w60_pur (md := Md) (by kernel_rfl) (A := c_spec_l08Causes 104 111 114) (by kernel_rfl) (by
  rintro ⟨x, y, z⟩ b hb
  exact d_spec_l08Causes u60_104 u60_111 u60_114 x y z hb)
noncomputable def e61 : Env := mkEnv [] []
theorem e61_ok : EnvOK Try.prog e61 := mkEnv_ok (by intro p hp; cases hp) (by intro p hp; cases hp)
theorem w61_pur : ∀ c, opens Ap c = true → PurEnv e61 c := mkEnv_pur _ _ (by intro p hp; cases hp)
theorem o61 : PureOK Try.prog 61 true (FA fun a : Int => p_spec_l08Thing a) := pure_tells e61_ok w61_pur (md := Md) (by kernel_rfl) (A := c_spec_l08Thing) (by kernel_rfl) (by
  rintro x b hb
  exact d_spec_l08Thing x hb)
noncomputable def e16 : Env := mkEnv [(58, true, FA fun a : TOp => p_spec_l08OpOK a), (59, true, FA fun a : List TOp => p_spec_l08Counts a), (60, true, FA fun a : List TOp × TVec × TOp => p_spec_l08Causes a.1 a.2.1 a.2.2), (61, true, FA fun a : Int => p_spec_l08Thing a)] []
theorem e16_ok : EnvOK Try.prog e16 := mkEnv_ok (by
  intro p hp
  simp only [List.mem_cons, List.not_mem_nil, or_false] at hp
  rcases hp with rfl | rfl | rfl | rfl
  · exact o58
  · exact o59
  · exact o60
  · exact o61) (by intro p hp; cases hp)
theorem w16_pur : ∀ c, opens Ap c = true → PurEnv e16 c := mkEnv_pur _ _ (by intro p hp; cases hp)
theorem u16_58 : e16 (2 * 58) = pureFn true (FA fun a : TOp => p_spec_l08OpOK a) := by
  unfold e16
  exact mkEnv_at (by rfl)
theorem u16_59 : e16 (2 * 59) = pureFn true (FA fun a : List TOp => p_spec_l08Counts a) := by
  unfold e16
  exact mkEnv_at (by rfl)
theorem u16_60 : e16 (2 * 60) = pureFn true (FA fun a : List TOp × TVec × TOp => p_spec_l08Causes a.1 a.2.1 a.2.2) := by
  unfold e16
  exact mkEnv_at (by rfl)
theorem u16_61 : e16 (2 * 61) = pureFn true (FA fun a : Int => p_spec_l08Thing a) := by
  unfold e16
  exact mkEnv_at (by rfl)
theorem o16 : PureOK Try.prog 16 true (FA fun a : List TOp => p_spec_LogOK a) := pure_tells e16_ok w16_pur (md := Md) (by kernel_rfl) (A := c_spec_LogOK 58 59 60 61) (by kernel_rfl) (by
  rintro x b hb
  exact d_spec_LogOK u16_58 u16_59 u16_60 u16_61 x hb)
noncomputable def e81 : Env := mkEnv [] []
theorem e81_ok : EnvOK Try.prog e81 := mkEnv_ok (by intro p hp; cases hp) (by intro p hp; cases hp)
theorem w81_pur : ∀ c, opens Ap c = true → PurEnv e81 c := mkEnv_pur _ _ (by intro p hp; cases hp)
theorem o81 : PureOK Try.prog 81 true (FA fun a : TVec × TVec => p_spec_l02Covers a.1 a.2) := pure_tells e81_ok w81_pur (md := Md) (by kernel_rfl) (A := c_spec_l02Covers) (by kernel_rfl) (by
  rintro ⟨x, y⟩ b hb
  exact d_spec_l02Covers x y hb)
noncomputable def e122 : Env := mkEnv [] []
theorem e122_ok : EnvOK Try.prog e122 := mkEnv_ok (by intro p hp; cases hp) (by intro p hp; cases hp)
theorem w122_pur : ∀ c, opens Ap c = true → PurEnv e122 c := mkEnv_pur _ _ (by intro p hp; cases hp)
theorem y122 : FunOK Try.prog 122 (ownFn Try.prog e122 (c_spec_l02Copy)) := ownFn_ok e122_ok w122_pur (md := Md) (by kernel_rfl) (by kernel_rfl)
noncomputable def e73 : Env := mkEnv [] [(122, (ownFn Try.prog e122 (c_spec_l02Copy)))]
theorem e73_ok : EnvOK Try.prog e73 := mkEnv_ok (by intro p hp; cases hp) (by
  intro p hp
  simp only [List.mem_cons, List.not_mem_nil, or_false] at hp
  subst hp
  exact y122)
theorem w73_pur : ∀ c, opens Ap c = true → PurEnv e73 c := mkEnv_pur _ _ (by
  intro p hp
  simp only [List.mem_cons, List.not_mem_nil, or_false] at hp
  subst hp
  intro _; exact ownFn_app)
theorem x73_122 : k_spec_l02Copy (e73 (2 * 122 + 1)) := by
  unfold e73
  rw [mkEnv_own (g := (ownFn Try.prog e122 (c_spec_l02Copy))) (by rfl)]
  exact ko_spec_l02Copy
theorem o73 : PureOK Try.prog 73 true (FA fun a : TOp => p_spec_l08CopyOp a) := pure_tells e73_ok w73_pur (md := Md) (by kernel_rfl) (A := c_spec_l08CopyOp 122) (by kernel_rfl) (by
  rintro x b hb
  exact d_spec_l08CopyOp x73_122 x hb)
noncomputable def e40 : Env := mkEnv [(16, true, FA fun a : List TOp => p_spec_LogOK a), (72, true, FA fun a : TVec => p_spec_VecOK a), (59, true, FA fun a : List TOp => p_spec_l08Counts a), (81, true, FA fun a : TVec × TVec => p_spec_l02Covers a.1 a.2), (73, true, FA fun a : TOp => p_spec_l08CopyOp a)] []
theorem e40_ok : EnvOK Try.prog e40 := mkEnv_ok (by
  intro p hp
  simp only [List.mem_cons, List.not_mem_nil, or_false] at hp
  rcases hp with rfl | rfl | rfl | rfl | rfl
  · exact o16
  · exact o72
  · exact o59
  · exact o81
  · exact o73) (by intro p hp; cases hp)
theorem w40_pur : ∀ c, opens Ap c = true → PurEnv e40 c := mkEnv_pur _ _ (by intro p hp; cases hp)
theorem u40_16 : e40 (2 * 16) = pureFn true (FA fun a : List TOp => p_spec_LogOK a) := by
  unfold e40
  exact mkEnv_at (by rfl)
theorem u40_72 : e40 (2 * 72) = pureFn true (FA fun a : TVec => p_spec_VecOK a) := by
  unfold e40
  exact mkEnv_at (by rfl)
theorem u40_59 : e40 (2 * 59) = pureFn true (FA fun a : List TOp => p_spec_l08Counts a) := by
  unfold e40
  exact mkEnv_at (by rfl)
theorem u40_81 : e40 (2 * 81) = pureFn true (FA fun a : TVec × TVec => p_spec_l02Covers a.1 a.2) := by
  unfold e40
  exact mkEnv_at (by rfl)
theorem u40_73 : e40 (2 * 73) = pureFn true (FA fun a : TOp => p_spec_l08CopyOp a) := by
  unfold e40
  exact mkEnv_at (by rfl)
theorem o40 : PureOK Try.prog 40 false (FA fun a : List TOp × TVec => p_spec_LogAt a.1 a.2) := pure_tells e40_ok w40_pur (md := Md) (by kernel_rfl) (A := c_spec_LogAt 16 72 59 81 73) (by kernel_rfl) (by
  rintro ⟨x, y⟩ b hb
  exact d_spec_LogAt u40_16 u40_72 u40_59 u40_81 u40_73 x y hb)
noncomputable def e120 : Env := mkEnv [] []
theorem e120_ok : EnvOK Try.prog e120 := mkEnv_ok (by intro p hp; cases hp) (by intro p hp; cases hp)
theorem w120_pur : ∀ c, opens Ap c = true → PurEnv e120 c := mkEnv_pur _ _ (by intro p hp; cases hp)
theorem o120 : PureOK Try.prog 120 true (FA fun a : TOp => p_impl_Op_stamp a) := pure_tells e120_ok w120_pur (md := Md) (by kernel_rfl) (A := c_impl_Op_stamp) (by kernel_rfl) (by
  rintro x b hb
  exact d_impl_Op_stamp x hb)
noncomputable def e69 : Env := mkEnv [] []
theorem e69_ok : EnvOK Try.prog e69 := mkEnv_ok (by intro p hp; cases hp) (by intro p hp; cases hp)
theorem w69_pur : ∀ c, opens Ap c = true → PurEnv e69 c := mkEnv_pur _ _ (by intro p hp; cases hp)
theorem o69 : PureOK Try.prog 69 true (FA fun a : Int => p_impl_isActor a) := pure_tells e69_ok w69_pur (md := Md) (by kernel_rfl) (A := c_impl_isActor) (by kernel_rfl) (by
  rintro x b hb
  exact d_impl_isActor x hb)
noncomputable def e133 : Env := mkEnv [(69, true, FA fun a : Int => p_impl_isActor a)] []
theorem e133_ok : EnvOK Try.prog e133 := mkEnv_ok (by
  intro p hp
  simp only [List.mem_cons, List.not_mem_nil, or_false] at hp
  subst hp
  exact o69) (by intro p hp; cases hp)
theorem w133_pur : ∀ c, opens Ap c = true → PurEnv e133 c := mkEnv_pur _ _ (by intro p hp; cases hp)
theorem u133_69 : e133 (2 * 69) = pureFn true (FA fun a : Int => p_impl_isActor a) := by
  unfold e133
  exact mkEnv_at (by rfl)
theorem o133 : PureOK Try.prog 133 true (FA fun a : TStamp => p_impl_StampOK a) := pure_tells e133_ok w133_pur (md := Md) (by kernel_rfl) (A := c_impl_StampOK 69) (by kernel_rfl) (by
  rintro x b hb
  exact d_impl_StampOK u133_69 x hb)
noncomputable def e75 : Env := mkEnv [] []
theorem e75_ok : EnvOK Try.prog e75 := mkEnv_ok (by intro p hp; cases hp) (by intro p hp; cases hp)
theorem w75_pur : ∀ c, opens Ap c = true → PurEnv e75 c := mkEnv_pur _ _ (by intro p hp; cases hp)
theorem o75 : PureOK Try.prog 75 true (FA fun a : TVec => p_impl_VecOK a) := pure_tells e75_ok w75_pur (md := Md) (by kernel_rfl) (A := c_impl_VecOK) (by kernel_rfl) (by
  rintro x b hb
  exact d_impl_VecOK x hb)
noncomputable def e119 : Env := mkEnv [] []
theorem e119_ok : EnvOK Try.prog e119 := mkEnv_ok (by intro p hp; cases hp) (by intro p hp; cases hp)
theorem w119_pur : ∀ c, opens Ap c = true → PurEnv e119 c := mkEnv_pur _ _ (by intro p hp; cases hp)
theorem o119 : PureOK Try.prog 119 true (FA fun a : TStamp × TStamp => p_impl_StampLess a.1 a.2) := pure_tells e119_ok w119_pur (md := Md) (by kernel_rfl) (A := c_impl_StampLess) (by kernel_rfl) (by
  rintro ⟨x, y⟩ b hb
  exact d_impl_StampLess x y hb)
noncomputable def e134 : Env := mkEnv [] []
theorem e134_ok : EnvOK Try.prog e134 := mkEnv_ok (by intro p hp; cases hp) (by intro p hp; cases hp)
theorem w134_pur : ∀ c, opens Ap c = true → PurEnv e134 c := mkEnv_pur _ _ (by intro p hp; cases hp)
theorem o134 : PureOK Try.prog 134 true (FA fun a : Int => p_impl_charOK a) := pure_tells e134_ok w134_pur (md := Md) (by kernel_rfl) (A := c_impl_charOK) (by kernel_rfl) (by
  rintro x b hb
  exact d_impl_charOK x hb)
noncomputable def e106 : Env := mkEnv [(120, true, FA fun a : TOp => p_impl_Op_stamp a), (133, true, FA fun a : TStamp => p_impl_StampOK a), (75, true, FA fun a : TVec => p_impl_VecOK a), (119, true, FA fun a : TStamp × TStamp => p_impl_StampLess a.1 a.2), (134, true, FA fun a : Int => p_impl_charOK a)] []
theorem e106_ok : EnvOK Try.prog e106 := mkEnv_ok (by
  intro p hp
  simp only [List.mem_cons, List.not_mem_nil, or_false] at hp
  rcases hp with rfl | rfl | rfl | rfl | rfl
  · exact o120
  · exact o133
  · exact o75
  · exact o119
  · exact o134) (by intro p hp; cases hp)
theorem w106_pur : ∀ c, opens Ap c = true → PurEnv e106 c := mkEnv_pur _ _ (by intro p hp; cases hp)
theorem u106_120 : e106 (2 * 120) = pureFn true (FA fun a : TOp => p_impl_Op_stamp a) := by
  unfold e106
  exact mkEnv_at (by rfl)
theorem u106_133 : e106 (2 * 133) = pureFn true (FA fun a : TStamp => p_impl_StampOK a) := by
  unfold e106
  exact mkEnv_at (by rfl)
theorem u106_75 : e106 (2 * 75) = pureFn true (FA fun a : TVec => p_impl_VecOK a) := by
  unfold e106
  exact mkEnv_at (by rfl)
theorem u106_119 : e106 (2 * 119) = pureFn true (FA fun a : TStamp × TStamp => p_impl_StampLess a.1 a.2) := by
  unfold e106
  exact mkEnv_at (by rfl)
theorem u106_134 : e106 (2 * 134) = pureFn true (FA fun a : Int => p_impl_charOK a) := by
  unfold e106
  exact mkEnv_at (by rfl)
theorem o106 : PureOK Try.prog 106 true (FA fun a : TOp => p_impl_opOK a) := pure_tells e106_ok w106_pur (md := Md) (by kernel_rfl) (A := c_impl_opOK 120 133 75 119 134) (by kernel_rfl) (by
  rintro x b hb
  exact d_impl_opOK u106_120 u106_133 u106_75 u106_134 u106_119 x hb)
noncomputable def e118 : Env := mkEnv [] []
theorem e118_ok : EnvOK Try.prog e118 := mkEnv_ok (by intro p hp; cases hp) (by intro p hp; cases hp)
theorem w118_pur : ∀ c, opens Ap c = true → PurEnv e118 c := mkEnv_pur _ _ (by intro p hp; cases hp)
theorem o118 : PureOK Try.prog 118 true (FA fun a : TOp => p_impl_Op_thing a) := pure_tells e118_ok w118_pur (md := Md) (by kernel_rfl) (A := c_impl_Op_thing) (by kernel_rfl) (by
  rintro x b hb
  exact d_impl_Op_thing x hb)
noncomputable def e110 : Env := mkEnv [(118, true, FA fun a : TOp => p_impl_Op_thing a), (120, true, FA fun a : TOp => p_impl_Op_stamp a), (119, true, FA fun a : TStamp × TStamp => p_impl_StampLess a.1 a.2)] []
theorem e110_ok : EnvOK Try.prog e110 := mkEnv_ok (by
  intro p hp
  simp only [List.mem_cons, List.not_mem_nil, or_false] at hp
  rcases hp with rfl | rfl | rfl
  · exact o118
  · exact o120
  · exact o119) (by intro p hp; cases hp)
theorem w110_pur : ∀ c, opens Ap c = true → PurEnv e110 c := mkEnv_pur _ _ (by intro p hp; cases hp)
theorem u110_118 : e110 (2 * 118) = pureFn true (FA fun a : TOp => p_impl_Op_thing a) := by
  unfold e110
  exact mkEnv_at (by rfl)
theorem u110_120 : e110 (2 * 120) = pureFn true (FA fun a : TOp => p_impl_Op_stamp a) := by
  unfold e110
  exact mkEnv_at (by rfl)
theorem u110_119 : e110 (2 * 119) = pureFn true (FA fun a : TStamp × TStamp => p_impl_StampLess a.1 a.2) := by
  unfold e110
  exact mkEnv_at (by rfl)
theorem y110 : FunOK Try.prog 110 (runIn Try.prog e110 (c_impl_book_put 118 120 119)) := runIn_ok e110_ok w110_pur (md := Md) (by kernel_rfl) (by kernel_rfl)
noncomputable def e63 : Env := mkEnv [(106, true, FA fun a : TOp => p_impl_opOK a), (118, true, FA fun a : TOp => p_impl_Op_thing a), (120, true, FA fun a : TOp => p_impl_Op_stamp a), (119, true, FA fun a : TStamp × TStamp => p_impl_StampLess a.1 a.2)] [(110, (runIn Try.prog e110 (c_impl_book_put 118 120 119)))]
theorem e63_ok : EnvOK Try.prog e63 := mkEnv_ok (by
  intro p hp
  simp only [List.mem_cons, List.not_mem_nil, or_false] at hp
  rcases hp with rfl | rfl | rfl | rfl
  · exact o106
  · exact o118
  · exact o120
  · exact o119) (by
  intro p hp
  simp only [List.mem_cons, List.not_mem_nil, or_false] at hp
  subst hp
  exact y110)
theorem w63_pur : ∀ c, opens Ap c = true → PurEnv e63 c := mkEnv_pur _ _ (by
  intro p hp
  simp only [List.mem_cons, List.not_mem_nil, or_false] at hp
  subst hp
  intro h; exact absurd h (by rw [show Ap 110 = false from rfl]; exact Bool.false_ne_true))
theorem u63_106 : e63 (2 * 106) = pureFn true (FA fun a : TOp => p_impl_opOK a) := by
  unfold e63
  exact mkEnv_at (by rfl)
theorem u63_118 : e63 (2 * 118) = pureFn true (FA fun a : TOp => p_impl_Op_thing a) := by
  unfold e63
  exact mkEnv_at (by rfl)
theorem u63_120 : e63 (2 * 120) = pureFn true (FA fun a : TOp => p_impl_Op_stamp a) := by
  unfold e63
  exact mkEnv_at (by rfl)
theorem u63_119 : e63 (2 * 119) = pureFn true (FA fun a : TStamp × TStamp => p_impl_StampLess a.1 a.2) := by
  unfold e63
  exact mkEnv_at (by rfl)
theorem x63_110 : k_impl_book_put (e63 (2 * 110 + 1)) := by
  unfold e63
  rw [mkEnv_own (g := (runIn Try.prog e110 (c_impl_book_put 118 120 119))) (by rfl)]
  exact ko_impl_book_put u110_118 u110_120 u110_119
theorem o63 : PureOK Try.prog 63 false (FA fun a : List TOp => p_impl_readBook a) := pure_tells e63_ok w63_pur (md := Md) (by kernel_rfl) (A := c_impl_readBook 106 118 110 120 119) (by kernel_rfl) (by
  rintro x b hb
  exact d_impl_readBook u63_106 u63_118 u63_120 u63_119 x63_110 x hb)
noncomputable def e137 : Env := mkEnv [] []
theorem e137_ok : EnvOK Try.prog e137 := mkEnv_ok (by intro p hp; cases hp) (by intro p hp; cases hp)
theorem w137_pur : ∀ c, opens Ap c = true → PurEnv e137 c := mkEnv_pur _ _ (by intro p hp; cases hp)
theorem o137 : PureOK Try.prog 137 true (FA fun a : TVec × TVec => p_impl_vecLE a.1 a.2) := pure_tells e137_ok w137_pur (md := Md) (by kernel_rfl) (A := c_impl_vecLE) (by kernel_rfl) (by
  rintro ⟨x, y⟩ b hb
  exact d_impl_vecLE x y hb)
noncomputable def e124 : Env := mkEnv [(137, true, FA fun a : TVec × TVec => p_impl_vecLE a.1 a.2)] [(110, (runIn Try.prog e110 (c_impl_book_put 118 120 119)))]
theorem e124_ok : EnvOK Try.prog e124 := mkEnv_ok (by
  intro p hp
  simp only [List.mem_cons, List.not_mem_nil, or_false] at hp
  subst hp
  exact o137) (by
  intro p hp
  simp only [List.mem_cons, List.not_mem_nil, or_false] at hp
  subst hp
  exact y110)
theorem w124_pur : ∀ c, opens Ap c = true → PurEnv e124 c := mkEnv_pur _ _ (by
  intro p hp
  simp only [List.mem_cons, List.not_mem_nil, or_false] at hp
  subst hp
  intro h; exact absurd h (by rw [show Ap 110 = false from rfl]; exact Bool.false_ne_true))
theorem u124_137 : e124 (2 * 137) = pureFn true (FA fun a : TVec × TVec => p_impl_vecLE a.1 a.2) := by
  unfold e124
  exact mkEnv_at (by rfl)
theorem x124_110 : k_impl_book_put (e124 (2 * 110 + 1)) := by
  unfold e124
  rw [mkEnv_own (g := (runIn Try.prog e110 (c_impl_book_put 118 120 119))) (by rfl)]
  exact ko_impl_book_put u110_118 u110_120 u110_119
theorem o124 : PureOK Try.prog 124 false (FA fun a : Option TBook × TVec => p_impl_book_at a.1 a.2) := pure_tells e124_ok w124_pur (md := Md) (by kernel_rfl) (A := c_impl_book_at 137 110) (by kernel_rfl) (by
  rintro ⟨x, y⟩ b hb
  exact d_impl_book_at u124_137 x124_110 x y hb)
noncomputable def e82 : Env := mkEnv [(63, false, FA fun a : List TOp => p_impl_readBook a), (75, true, FA fun a : TVec => p_impl_VecOK a), (124, false, FA fun a : Option TBook × TVec => p_impl_book_at a.1 a.2)] []
theorem e82_ok : EnvOK Try.prog e82 := mkEnv_ok (by
  intro p hp
  simp only [List.mem_cons, List.not_mem_nil, or_false] at hp
  rcases hp with rfl | rfl | rfl
  · exact o63
  · exact o75
  · exact o124) (by intro p hp; cases hp)
theorem w82_pur : ∀ c, opens Ap c = true → PurEnv e82 c := mkEnv_pur _ _ (by intro p hp; cases hp)
theorem u82_63 : e82 (2 * 63) = pureFn false (FA fun a : List TOp => p_impl_readBook a) := by
  unfold e82
  exact mkEnv_at (by rfl)
theorem u82_75 : e82 (2 * 75) = pureFn true (FA fun a : TVec => p_impl_VecOK a) := by
  unfold e82
  exact mkEnv_at (by rfl)
theorem u82_124 : e82 (2 * 124) = pureFn false (FA fun a : Option TBook × TVec => p_impl_book_at a.1 a.2) := by
  unfold e82
  exact mkEnv_at (by rfl)
theorem o82 : PureOK Try.prog 82 false (FA fun a : List TOp × TVec => p_impl_bookAt a.1 a.2) := pure_tells e82_ok w82_pur (md := Md) (by kernel_rfl) (A := c_impl_bookAt 63 75 124) (by kernel_rfl) (by
  rintro ⟨x, y⟩ b hb
  exact d_impl_bookAt u82_63 u82_75 u82_124 x y hb)
noncomputable def e123 : Env := mkEnv [] []
theorem e123_ok : EnvOK Try.prog e123 := mkEnv_ok (by intro p hp; cases hp) (by intro p hp; cases hp)
theorem w123_pur : ∀ c, opens Ap c = true → PurEnv e123 c := mkEnv_pur _ _ (by intro p hp; cases hp)
theorem y123 : FunOK Try.prog 123 (ownFn Try.prog e123 (c_impl_vecCopy)) := ownFn_ok e123_ok w123_pur (md := Md) (by kernel_rfl) (by kernel_rfl)
noncomputable def e76 : Env := mkEnv [] [(123, (ownFn Try.prog e123 (c_impl_vecCopy)))]
theorem e76_ok : EnvOK Try.prog e76 := mkEnv_ok (by intro p hp; cases hp) (by
  intro p hp
  simp only [List.mem_cons, List.not_mem_nil, or_false] at hp
  subst hp
  exact y123)
theorem w76_pur : ∀ c, opens Ap c = true → PurEnv e76 c := mkEnv_pur _ _ (by
  intro p hp
  simp only [List.mem_cons, List.not_mem_nil, or_false] at hp
  subst hp
  intro _; exact ownFn_app)
theorem x76_123 : k_impl_vecCopy (e76 (2 * 123 + 1)) := by
  unfold e76
  rw [mkEnv_own (g := (ownFn Try.prog e123 (c_impl_vecCopy))) (by rfl)]
  exact ko_impl_vecCopy
theorem y76 : FunOK Try.prog 76 (ownFn Try.prog e76 (c_impl_opCopy 123)) := ownFn_ok e76_ok w76_pur (md := Md) (by kernel_rfl) (by kernel_rfl)
noncomputable def e83 : Env := mkEnv [] [(76, (ownFn Try.prog e76 (c_impl_opCopy 123)))]
theorem e83_ok : EnvOK Try.prog e83 := mkEnv_ok (by intro p hp; cases hp) (by
  intro p hp
  simp only [List.mem_cons, List.not_mem_nil, or_false] at hp
  subst hp
  exact y76)
theorem w83_pur : ∀ c, opens Ap c = true → PurEnv e83 c := mkEnv_pur _ _ (by
  intro p hp
  simp only [List.mem_cons, List.not_mem_nil, or_false] at hp
  subst hp
  intro _; exact ownFn_app)
theorem x83_76 : k_impl_opCopy (e83 (2 * 76 + 1)) := by
  unfold e83
  rw [mkEnv_own (g := (ownFn Try.prog e76 (c_impl_opCopy 123))) (by rfl)]
  exact ko_impl_opCopy x76_123
theorem y83 : FunOK Try.prog 83 (ownFn Try.prog e83 (c_impl_book_log 76)) := ownFn_ok e83_ok w83_pur (md := Md) (by kernel_rfl) (by kernel_rfl)
noncomputable def e41 : Env := mkEnv [(82, false, FA fun a : List TOp × TVec => p_impl_bookAt a.1 a.2)] [(83, (ownFn Try.prog e83 (c_impl_book_log 76)))]
theorem e41_ok : EnvOK Try.prog e41 := mkEnv_ok (by
  intro p hp
  simp only [List.mem_cons, List.not_mem_nil, or_false] at hp
  subst hp
  exact o82) (by
  intro p hp
  simp only [List.mem_cons, List.not_mem_nil, or_false] at hp
  subst hp
  exact y83)
theorem w41_pur : ∀ c, opens Ap c = true → PurEnv e41 c := mkEnv_pur _ _ (by
  intro p hp
  simp only [List.mem_cons, List.not_mem_nil, or_false] at hp
  subst hp
  intro _; exact ownFn_app)
theorem u41_82 : e41 (2 * 82) = pureFn false (FA fun a : List TOp × TVec => p_impl_bookAt a.1 a.2) := by
  unfold e41
  exact mkEnv_at (by rfl)
theorem x41_83 : k_impl_book_log (e41 (2 * 83 + 1)) := by
  unfold e41
  rw [mkEnv_own (g := (ownFn Try.prog e83 (c_impl_book_log 76))) (by rfl)]
  exact ko_impl_book_log x83_76
theorem o41 : PureOK Try.prog 41 false (FA fun a : List TOp × TVec => p_impl_LogAt a.1 a.2) := pure_tells e41_ok w41_pur (md := Md) (by kernel_rfl) (A := c_impl_LogAt 82 83) (by kernel_rfl) (by
  rintro ⟨x, y⟩ b hb
  exact d_impl_LogAt u41_82 x41_83 x y hb)
theorem y41 : FunOK Try.prog 41 (ownFn Try.prog e41 (c_impl_LogAt 82 83)) := ownFn_ok e41_ok w41_pur (md := Md) (by kernel_rfl) (by kernel_rfl)
noncomputable def e28 : Env := mkEnv [] []
theorem e28_ok : EnvOK Try.prog e28 := mkEnv_ok (by intro p hp; cases hp) (by intro p hp; cases hp)
theorem w28_pur : ∀ c, opens Ap c = true → PurEnv e28 c := mkEnv_pur _ _ (by intro p hp; cases hp)
theorem o28 : PureOK Try.prog 28 true (FA fun a : List Int × List Int => p_laws_eqIntS a.1 a.2) := pure_tells e28_ok w28_pur (md := Md) (by kernel_rfl) (A := c_laws_eqIntS) (by kernel_rfl) (by
  rintro ⟨x, y⟩ b hb
  exact d_laws_eqIntS x y hb)
noncomputable def e22 : Env := mkEnv [(28, true, FA fun a : List Int × List Int => p_laws_eqIntS a.1 a.2)] []
theorem e22_ok : EnvOK Try.prog e22 := mkEnv_ok (by
  intro p hp
  simp only [List.mem_cons, List.not_mem_nil, or_false] at hp
  subst hp
  exact o28) (by intro p hp; cases hp)
theorem w22_pur : ∀ c, opens Ap c = true → PurEnv e22 c := mkEnv_pur _ _ (by intro p hp; cases hp)
theorem u22_28 : e22 (2 * 28) = pureFn true (FA fun a : List Int × List Int => p_laws_eqIntS a.1 a.2) := by
  unfold e22
  exact mkEnv_at (by rfl)
theorem o22 : PureOK Try.prog 22 true (FA fun a : TVec × TVec => p_laws_eqVector a.1 a.2) := pure_tells e22_ok w22_pur (md := Md) (by kernel_rfl) (A := c_laws_eqVector 28) (by kernel_rfl) (by
  rintro ⟨x, y⟩ b hb
  exact d_laws_eqVector u22_28 x y hb)
noncomputable def e121 : Env := mkEnv [] []
theorem e121_ok : EnvOK Try.prog e121 := mkEnv_ok (by intro p hp; cases hp) (by intro p hp; cases hp)
theorem w121_pur : ∀ c, opens Ap c = true → PurEnv e121 c := mkEnv_pur _ _ (by intro p hp; cases hp)
theorem o121 : PureOK Try.prog 121 true (FA fun a : TStamp × TStamp => p_laws_eqStamp a.1 a.2) := pure_tells e121_ok w121_pur (md := Md) (by kernel_rfl) (A := c_laws_eqStamp) (by kernel_rfl) (by
  rintro ⟨x, y⟩ b hb
  exact d_laws_eqStamp x y hb)
noncomputable def e64 : Env := mkEnv [(22, true, FA fun a : TVec × TVec => p_laws_eqVector a.1 a.2), (121, true, FA fun a : TStamp × TStamp => p_laws_eqStamp a.1 a.2)] []
theorem e64_ok : EnvOK Try.prog e64 := mkEnv_ok (by
  intro p hp
  simp only [List.mem_cons, List.not_mem_nil, or_false] at hp
  rcases hp with rfl | rfl
  · exact o22
  · exact o121) (by intro p hp; cases hp)
theorem w64_pur : ∀ c, opens Ap c = true → PurEnv e64 c := mkEnv_pur _ _ (by intro p hp; cases hp)
theorem u64_22 : e64 (2 * 22) = pureFn true (FA fun a : TVec × TVec => p_laws_eqVector a.1 a.2) := by
  unfold e64
  exact mkEnv_at (by rfl)
theorem u64_121 : e64 (2 * 121) = pureFn true (FA fun a : TStamp × TStamp => p_laws_eqStamp a.1 a.2) := by
  unfold e64
  exact mkEnv_at (by rfl)
theorem o64 : PureOK Try.prog 64 true (FA fun a : TOp × TOp => p_laws_eqOp a.1 a.2) := pure_tells e64_ok w64_pur (md := Md) (by kernel_rfl) (A := c_laws_eqOp 22 121) (by kernel_rfl) (by
  rintro ⟨x, y⟩ b hb
  exact d_laws_eqOp u64_22 u64_121 x y hb)
noncomputable def e19 : Env := mkEnv [(64, true, FA fun a : TOp × TOp => p_laws_eqOp a.1 a.2)] []
theorem e19_ok : EnvOK Try.prog e19 := mkEnv_ok (by
  intro p hp
  simp only [List.mem_cons, List.not_mem_nil, or_false] at hp
  subst hp
  exact o64) (by intro p hp; cases hp)
theorem w19_pur : ∀ c, opens Ap c = true → PurEnv e19 c := mkEnv_pur _ _ (by intro p hp; cases hp)
theorem u19_64 : e19 (2 * 64) = pureFn true (FA fun a : TOp × TOp => p_laws_eqOp a.1 a.2) := by
  unfold e19
  exact mkEnv_at (by rfl)
theorem o19 : PureOK Try.prog 19 true (FA fun a : List TOp × List TOp => p_laws_eqOpS a.1 a.2) := pure_tells e19_ok w19_pur (md := Md) (by kernel_rfl) (A := c_laws_eqOpS 64) (by kernel_rfl) (by
  rintro ⟨x, y⟩ b hb
  exact d_laws_eqOpS u19_64 x y hb)
noncomputable def e29 : Env := mkEnv [] []
theorem e29_ok : EnvOK Try.prog e29 := mkEnv_ok (by intro p hp; cases hp) (by intro p hp; cases hp)
theorem w29_pur : ∀ c, opens Ap c = true → PurEnv e29 c := mkEnv_pur _ _ (by intro p hp; cases hp)
theorem y29 : FunOK Try.prog 29 (runIn Try.prog e29 (c_laws_markIntS)) := runIn_ok e29_ok w29_pur (md := Md) (by kernel_rfl) (by kernel_rfl)
noncomputable def e66 : Env := mkEnv [] []
theorem e66_ok : EnvOK Try.prog e66 := mkEnv_ok (by intro p hp; cases hp) (by intro p hp; cases hp)
theorem w66_pur : ∀ c, opens Ap c = true → PurEnv e66 c := mkEnv_pur _ _ (by intro p hp; cases hp)
theorem o66 : PureOK Try.prog 66 true (FA fun a : Int => p_laws_markText a) := pure_tells e66_ok w66_pur (md := Md) (by kernel_rfl) (A := c_laws_markText) (by kernel_rfl) (by
  rintro x b hb
  exact d_laws_markText x hb)
noncomputable def e23 : Env := mkEnv [(66, true, FA fun a : Int => p_laws_markText a)] [(29, (runIn Try.prog e29 (c_laws_markIntS)))]
theorem e23_ok : EnvOK Try.prog e23 := mkEnv_ok (by
  intro p hp
  simp only [List.mem_cons, List.not_mem_nil, or_false] at hp
  subst hp
  exact o66) (by
  intro p hp
  simp only [List.mem_cons, List.not_mem_nil, or_false] at hp
  subst hp
  exact y29)
theorem w23_pur : ∀ c, opens Ap c = true → PurEnv e23 c := mkEnv_pur _ _ (by
  intro p hp
  simp only [List.mem_cons, List.not_mem_nil, or_false] at hp
  subst hp
  intro h; exact absurd h (by rw [show Ap 29 = false from rfl]; exact Bool.false_ne_true))
theorem u23_66 : e23 (2 * 66) = pureFn true (FA fun a : Int => p_laws_markText a) := by
  unfold e23
  exact mkEnv_at (by rfl)
theorem x23_29 : k_laws_markIntS (e23 (2 * 29 + 1)) := by
  unfold e23
  rw [mkEnv_own (g := (runIn Try.prog e29 (c_laws_markIntS))) (by rfl)]
  exact ko_laws_markIntS
theorem y23 : FunOK Try.prog 23 (runIn Try.prog e23 (c_laws_markOpS 29 66)) := runIn_ok e23_ok w23_pur (md := Md) (by kernel_rfl) (by kernel_rfl)
noncomputable def e24 : Env := mkEnv [] [(29, (runIn Try.prog e29 (c_laws_markIntS)))]
theorem e24_ok : EnvOK Try.prog e24 := mkEnv_ok (by intro p hp; cases hp) (by
  intro p hp
  simp only [List.mem_cons, List.not_mem_nil, or_false] at hp
  subst hp
  exact y29)
theorem w24_pur : ∀ c, opens Ap c = true → PurEnv e24 c := mkEnv_pur _ _ (by
  intro p hp
  simp only [List.mem_cons, List.not_mem_nil, or_false] at hp
  subst hp
  intro h; exact absurd h (by rw [show Ap 29 = false from rfl]; exact Bool.false_ne_true))
theorem x24_29 : k_laws_markIntS (e24 (2 * 29 + 1)) := by
  unfold e24
  rw [mkEnv_own (g := (runIn Try.prog e29 (c_laws_markIntS))) (by rfl)]
  exact ko_laws_markIntS
theorem y24 : FunOK Try.prog 24 (runIn Try.prog e24 (c_laws_markVector 29)) := runIn_ok e24_ok w24_pur (md := Md) (by kernel_rfl) (by kernel_rfl)
noncomputable def e30 : Env := mkEnv [] []
theorem e30_ok : EnvOK Try.prog e30 := mkEnv_ok (by intro p hp; cases hp) (by intro p hp; cases hp)
theorem w30_pur : ∀ c, opens Ap c = true → PurEnv e30 c := mkEnv_pur _ _ (by intro p hp; cases hp)
theorem o30 : PureOK Try.prog 30 true (FA fun a : List Int × Int => p_laws_heldIntS a.1 a.2) := pure_tells e30_ok w30_pur (md := Md) (by kernel_rfl) (A := c_laws_heldIntS) (by kernel_rfl) (by
  rintro ⟨x, y⟩ b hb
  exact d_laws_heldIntS x y hb)
noncomputable def e37 : Env := mkEnv [(30, true, FA fun a : List Int × Int => p_laws_heldIntS a.1 a.2), (66, true, FA fun a : Int => p_laws_markText a)] []
theorem e37_ok : EnvOK Try.prog e37 := mkEnv_ok (by
  intro p hp
  simp only [List.mem_cons, List.not_mem_nil, or_false] at hp
  rcases hp with rfl | rfl
  · exact o30
  · exact o66) (by intro p hp; cases hp)
theorem w37_pur : ∀ c, opens Ap c = true → PurEnv e37 c := mkEnv_pur _ _ (by intro p hp; cases hp)
theorem u37_30 : e37 (2 * 30) = pureFn true (FA fun a : List Int × Int => p_laws_heldIntS a.1 a.2) := by
  unfold e37
  exact mkEnv_at (by rfl)
theorem u37_66 : e37 (2 * 66) = pureFn true (FA fun a : Int => p_laws_markText a) := by
  unfold e37
  exact mkEnv_at (by rfl)
theorem o37 : PureOK Try.prog 37 true (FA fun a : List TOp × Int => p_laws_heldOpS a.1 a.2) := pure_tells e37_ok w37_pur (md := Md) (by kernel_rfl) (A := c_laws_heldOpS 30 66) (by kernel_rfl) (by
  rintro ⟨x, y⟩ b hb
  exact d_laws_heldOpS u37_30 u37_66 x y hb)
noncomputable def e9 : Env := mkEnv [(15, true, FA fun a : List TOp × Int => p_laws_szOpS a.1 a.2), (33, true, FA fun a : TVec × Int => p_laws_szVector a.1 a.2), (17, false, FA fun a : List TOp => p_laws_toOpS a), (35, true, FA fun a : TVec => p_laws_toVector a), (40, false, FA fun a : List TOp × TVec => p_spec_LogAt a.1 a.2), (19, true, FA fun a : List TOp × List TOp => p_laws_eqOpS a.1 a.2), (22, true, FA fun a : TVec × TVec => p_laws_eqVector a.1 a.2), (37, true, FA fun a : List TOp × Int => p_laws_heldOpS a.1 a.2), (41, false, FA fun a : List TOp × TVec => p_impl_LogAt a.1 a.2)] [(17, (ownFn Try.prog e17 (c_laws_toOpS 62))), (35, (ownFn Try.prog e35 (c_laws_toVector 74))), (41, (ownFn Try.prog e41 (c_impl_LogAt 82 83))), (23, (runIn Try.prog e23 (c_laws_markOpS 29 66))), (24, (runIn Try.prog e24 (c_laws_markVector 29)))]
theorem e9_ok : EnvOK Try.prog e9 := mkEnv_ok (by
  intro p hp
  simp only [List.mem_cons, List.not_mem_nil, or_false] at hp
  rcases hp with rfl | rfl | rfl | rfl | rfl | rfl | rfl | rfl | rfl
  · exact o15
  · exact o33
  · exact o17
  · exact o35
  · exact o40
  · exact o19
  · exact o22
  · exact o37
  · exact o41) (by
  intro p hp
  simp only [List.mem_cons, List.not_mem_nil, or_false] at hp
  rcases hp with rfl | rfl | rfl | rfl | rfl
  · exact y17
  · exact y35
  · exact y41
  · exact y23
  · exact y24)
theorem w9_pur : ∀ c, opens ApL c = true → PurEnv e9 c := mkEnv_pur _ _ (by
  intro p hp
  simp only [List.mem_cons, List.not_mem_nil, or_false] at hp
  rcases hp with rfl | rfl | rfl | rfl | rfl
  · intro h; exact absurd h (by rw [show ApL 17 = false from rfl]; exact Bool.false_ne_true)
  · intro h; exact absurd h (by rw [show ApL 35 = false from rfl]; exact Bool.false_ne_true)
  · intro h; exact absurd h (by rw [show ApL 41 = false from rfl]; exact Bool.false_ne_true)
  · intro h; exact absurd h (by rw [show ApL 23 = false from rfl]; exact Bool.false_ne_true)
  · intro h; exact absurd h (by rw [show ApL 24 = false from rfl]; exact Bool.false_ne_true))
theorem u9_15 : e9 (2 * 15) = pureFn true (FA fun a : List TOp × Int => p_laws_szOpS a.1 a.2) := by
  unfold e9
  exact mkEnv_at (by rfl)
theorem u9_33 : e9 (2 * 33) = pureFn true (FA fun a : TVec × Int => p_laws_szVector a.1 a.2) := by
  unfold e9
  exact mkEnv_at (by rfl)
theorem u9_17 : e9 (2 * 17) = pureFn false (FA fun a : List TOp => p_laws_toOpS a) := by
  unfold e9
  exact mkEnv_at (by rfl)
theorem u9_35 : e9 (2 * 35) = pureFn true (FA fun a : TVec => p_laws_toVector a) := by
  unfold e9
  exact mkEnv_at (by rfl)
theorem u9_40 : e9 (2 * 40) = pureFn false (FA fun a : List TOp × TVec => p_spec_LogAt a.1 a.2) := by
  unfold e9
  exact mkEnv_at (by rfl)
theorem u9_19 : e9 (2 * 19) = pureFn true (FA fun a : List TOp × List TOp => p_laws_eqOpS a.1 a.2) := by
  unfold e9
  exact mkEnv_at (by rfl)
theorem u9_22 : e9 (2 * 22) = pureFn true (FA fun a : TVec × TVec => p_laws_eqVector a.1 a.2) := by
  unfold e9
  exact mkEnv_at (by rfl)
theorem u9_37 : e9 (2 * 37) = pureFn true (FA fun a : List TOp × Int => p_laws_heldOpS a.1 a.2) := by
  unfold e9
  exact mkEnv_at (by rfl)
theorem u9_41 : e9 (2 * 41) = pureFn false (FA fun a : List TOp × TVec => p_impl_LogAt a.1 a.2) := by
  unfold e9
  exact mkEnv_at (by rfl)
theorem x9_17 : k_laws_toOpS (e9 (2 * 17 + 1)) := by
  unfold e9
  rw [mkEnv_own (g := (ownFn Try.prog e17 (c_laws_toOpS 62))) (by rfl)]
  exact ko_laws_toOpS x17_62
theorem x9_35 : k_laws_toVector (e9 (2 * 35 + 1)) := by
  unfold e9
  rw [mkEnv_own (g := (ownFn Try.prog e35 (c_laws_toVector 74))) (by rfl)]
  exact ko_laws_toVector x35_74
theorem x9_41 : k_impl_LogAt (e9 (2 * 41 + 1)) := by
  unfold e9
  rw [mkEnv_own (g := (ownFn Try.prog e41 (c_impl_LogAt 82 83))) (by rfl)]
  exact ko_impl_LogAt u41_82 x41_83
theorem x9_23 : k_laws_markOpS (e9 (2 * 23 + 1)) := by
  unfold e9
  rw [mkEnv_own (g := (runIn Try.prog e23 (c_laws_markOpS 29 66))) (by rfl)]
  exact ko_laws_markOpS u23_66 x23_29
theorem x9_24 : k_laws_markVector (e9 (2 * 24 + 1)) := by
  unfold e9
  rw [mkEnv_own (g := (runIn Try.prog e24 (c_laws_markVector 29))) (by rfl)]
  exact ko_laws_markVector x24_29
theorem law : LawOK Try.prog 9 [.sl 128 (.st [.int .i64, .int .i64, .int .i64, .st [.sl 8 (.int .i64)], .int .i64, .int .i64, .int .i64, .int .i64, .st [.int .i64, .int .i64], .str, .str]), .st [.sl 8 (.int .i64)]] := law_of_run e9_ok w9_pur (md := MdL) (A := c_laws_FnExactLogAt 15 33 17 35 40 41 19 22 23 24 37) (by kernel_rfl) (by
  intro xs hx
  cases hx with
  | cons h0 hx =>
  cases hx with
  | cons h1 hx =>
  cases hx
  obtain ⟨a0, rfl, k0⟩ := fit_sl (α := TOp) rfl (fun x hx => fit_TOp hx) h0
  obtain ⟨a1, rfl, k1⟩ := fit_TVec h1
  exact d_laws_FnExactLogAt u9_15 u9_33 u9_17 u9_35 u9_40 u9_19 u9_22 u9_37 u9_41 x9_17 x9_35 x9_41 x9_23 x9_24 a0 a1 (plain_LogAt a0 a1 k0 k1))
theorem own : ownKnob Try.prog.godebug = none := by kernel_rfl
theorem laidOut : laidOutB Try.prog = true := by kernel_rfl
set_option maxRecDepth 100000 in
theorem lifted (os : Os) (started : os.Started) (H : Type) (enc : TypeId × Value → H) :
    ReturnsInHanded {} Try.checked os 9 .any (Rows.fnExactLogAtSpec.pre6 enc Try.prog Try.f9 Rows.fnExactLogAtRow.domain false) (Rows.fnExactLogAtSpec.post enc Try.prog Try.f9 false true false false) := by
  refine returnsInHanded_of_change_sized (C := Try.checked) own started (by kernel_rfl) Try.func9
    (ChangeSpec.witness6 (enc := enc) (C := Try.checked) false ⟨#[], #[.slice none 0 0, .agg #[.slice none 0 0]], []⟩ 8 (by kernel_rfl) (by kernel_rfl) (by kernel_rfl) (by kernel_rfl)) ?_
  intro W base args ds gs before hval hW hcnd hsz _
  refine law_contract (n := 8) (tb := 4) (shs := [.sl 128 (.st [.int .i64, .int .i64, .int .i64, .st [.sl 8 (.int .i64)], .int .i64, .int .i64, .int .i64, .int .i64, .st [.int .i64, .int .i64], .str, .str]), .st [.sl 8 (.int .i64)]]) laidOut rfl ?_ (by kernel_rfl) Try.underlying4 (by kernel_rfl) (by kernel_rfl) law W base args ds gs before hval hW hsz
  intro ds hds
  have h1 : ds.length = 2 := hds
  match ds, h1 with
  | [d0, d1], _ => rfl
theorem over : Rows.fnExactLogAtRow.holds Try.pinned (OpenSpec.ofChange Rows.fnExactLogAtSpec) :=
  OpenClaim.holds_of_wide 9 Try.f9 rfl rfl rfl rfl rfl rfl rfl ⟨rfl, rfl, rfl, rfl, rfl⟩ rfl rfl rfl rfl rfl (by kernel_rfl) Try.func9 (by kernel_rfl)
    (of_decide_eq_true (by kernel_rfl)) (by unfold Func.isWrapper; first | (rw [if_pos (by decide +kernel)]; kernel_rfl) | (rw [if_neg (by decide +kernel)]; exact ⟨rfl, rfl⟩))
    (fun os started H enc _ => lifted os started H enc)
theorem proved : Rows.FnExactLogAtSaid := over
#print axioms proved
end Go.Proofs.Ytiabacjkejkbgaa.RFnExactLogAt
namespace Go.Proofs.Ytiabacjkejkbgaa
/-- The row, under a short name, for the claim. -/
theorem fnExactLogAt_holds : Rows.FnExactLogAtSaid := RFnExactLogAt.proved
end Go.Proofs.Ytiabacjkejkbgaa
