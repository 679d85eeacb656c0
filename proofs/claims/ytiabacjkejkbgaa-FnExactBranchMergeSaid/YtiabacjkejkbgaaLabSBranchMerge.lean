/- The law FnExactBranchMerge: its functions' contracts, its run, its row. No condition. -/
import Derived.Test.YtiabacjkejkbgaaRows
import Derived.Test.YtiabacjkejkbgaaLabPBranchMerge
import Derived.WalkKit
import Derived.ProofKit
set_option linter.unusedVariables false
namespace Go.Proofs.Ytiabacjkejkbgaa.RFnExactBranchMerge
open Go.AM
open Pic (enc dec dec_enc dec_sub)
def Md : Modes := fun f => if f == 16 then 4 else if f == 17 then 1 else if f == 20 then 4 else if f == 21 then 1 else if f == 23 then 2 else if f == 24 then 2 else if f == 26 then 4 else if f == 27 then 1 else if f == 29 then 2 else if f == 31 then 4 else if f == 32 then 1 else if f == 34 then 4 else if f == 35 then 1 else if f == 36 then 1 else if f == 38 then 4 else if f == 39 then 1 else if f == 40 then 4 else if f == 41 then 1 else if f == 42 then 4 else if f == 43 then 1 else if f == 44 then 4 else if f == 45 then 1 else if f == 47 then 2 else if f == 49 then 4 else if f == 50 then 1 else if f == 52 then 4 else if f == 53 then 1 else if f == 54 then 1 else if f == 55 then 4 else if f == 56 then 1 else if f == 62 then 1 else if f == 65 then 1 else if f == 72 then 4 else if f == 74 then 1 else if f == 76 then 1 else if f == 78 then 4 else if f == 80 then 1 else if f == 83 then 1 else if f == 84 then 1 else if f == 89 then 2 else if f == 94 then 1 else if f == 99 then 1 else if f == 102 then 2 else if f == 110 then 2 else if f == 112 then 4 else if f == 114 then 4 else if f == 116 then 1 else if f == 122 then 1 else if f == 123 then 1 else if f == 139 then 4 else if f == 140 then 2 else if f == 144 then 2 else 0
def Ap : Nat → Bool := fun f => Md f == 1
def MdL : Modes := fun f => if Md f == 1 then 3 else Md f
def ApL : Nat → Bool := fun f => MdL f == 1
noncomputable def e71 : Env := mkEnv [] []
theorem e71_ok : EnvOK Try.prog e71 := mkEnv_ok (by intro p hp; cases hp) (by intro p hp; cases hp)
theorem w71_pur : ∀ c, opens Ap c = true → PurEnv e71 c := mkEnv_pur _ _ (by intro p hp; cases hp)
theorem o71 : PureOK Try.prog 71 true (FA fun a : List Int × Int => p_laws_szIntS a.1 a.2) := pure_tells e71_ok w71_pur (md := Md) (by kernel_rfl) (A := c_laws_szIntS) (by kernel_rfl) (by
  rintro ⟨x, y⟩ b hb
  exact d_laws_szIntS x y hb)
noncomputable def e33 : Env := mkEnv [(71, true, FA fun a : List Int × Int => p_laws_szIntS a.1 a.2)] []
theorem e33_ok : EnvOK Try.prog e33 := mkEnv_ok (by
  intro p hp
  simp only [List.mem_cons, List.not_mem_nil, or_false] at hp
  subst hp
  exact o71) (by intro p hp; cases hp)
theorem w33_pur : ∀ c, opens Ap c = true → PurEnv e33 c := mkEnv_pur _ _ (by intro p hp; cases hp)
theorem u33_71 : e33 (2 * 71) = pureFn true (FA fun a : List Int × Int => p_laws_szIntS a.1 a.2) := by
  unfold e33
  exact mkEnv_at (by rfl)
theorem o33 : PureOK Try.prog 33 true (FA fun a : TVec × Int => p_laws_szVector a.1 a.2) := pure_tells e33_ok w33_pur (md := Md) (by kernel_rfl) (A := c_laws_szVector 71) (by kernel_rfl) (by
  rintro ⟨x, y⟩ b hb
  exact d_laws_szVector u33_71 x y hb)
noncomputable def e57 : Env := mkEnv [(33, true, FA fun a : TVec × Int => p_laws_szVector a.1 a.2)] []
theorem e57_ok : EnvOK Try.prog e57 := mkEnv_ok (by
  intro p hp
  simp only [List.mem_cons, List.not_mem_nil, or_false] at hp
  subst hp
  exact o33) (by intro p hp; cases hp)
theorem w57_pur : ∀ c, opens Ap c = true → PurEnv e57 c := mkEnv_pur _ _ (by intro p hp; cases hp)
theorem u57_33 : e57 (2 * 33) = pureFn true (FA fun a : TVec × Int => p_laws_szVector a.1 a.2) := by
  unfold e57
  exact mkEnv_at (by rfl)
theorem o57 : PureOK Try.prog 57 true (FA fun a : TOp × Int => p_laws_szOp a.1 a.2) := pure_tells e57_ok w57_pur (md := Md) (by kernel_rfl) (A := c_laws_szOp 33) (by kernel_rfl) (by
  rintro ⟨x, y⟩ b hb
  exact d_laws_szOp u57_33 x y hb)
noncomputable def e15 : Env := mkEnv [(57, true, FA fun a : TOp × Int => p_laws_szOp a.1 a.2)] []
theorem e15_ok : EnvOK Try.prog e15 := mkEnv_ok (by
  intro p hp
  simp only [List.mem_cons, List.not_mem_nil, or_false] at hp
  subst hp
  exact o57) (by intro p hp; cases hp)
theorem w15_pur : ∀ c, opens Ap c = true → PurEnv e15 c := mkEnv_pur _ _ (by intro p hp; cases hp)
theorem u15_57 : e15 (2 * 57) = pureFn true (FA fun a : TOp × Int => p_laws_szOp a.1 a.2) := by
  unfold e15
  exact mkEnv_at (by rfl)
theorem o15 : PureOK Try.prog 15 true (FA fun a : List TOp × Int => p_laws_szOpS a.1 a.2) := pure_tells e15_ok w15_pur (md := Md) (by kernel_rfl) (A := c_laws_szOpS 57) (by kernel_rfl) (by
  rintro ⟨x, y⟩ b hb
  exact d_laws_szOpS u15_57 x y hb)
noncomputable def e74 : Env := mkEnv [] []
theorem e74_ok : EnvOK Try.prog e74 := mkEnv_ok (by intro p hp; cases hp) (by intro p hp; cases hp)
theorem w74_pur : ∀ c, opens Ap c = true → PurEnv e74 c := mkEnv_pur _ _ (by intro p hp; cases hp)
theorem y74 : FunOK Try.prog 74 (ownFn Try.prog e74 (c_laws_toIntS)) := ownFn_ok e74_ok w74_pur (md := Md) (by kernel_rfl) (by kernel_rfl)
noncomputable def e35 : Env := mkEnv [] [(74, (ownFn Try.prog e74 (c_laws_toIntS)))]
theorem e35_ok : EnvOK Try.prog e35 := mkEnv_ok (by intro p hp; cases hp) (by
  intro p hp
  simp only [List.mem_cons, List.not_mem_nil, or_false] at hp
  subst hp
  exact y74)
theorem w35_pur : ∀ c, opens Ap c = true → PurEnv e35 c := mkEnv_pur _ _ (by
  intro p hp
  simp only [List.mem_cons, List.not_mem_nil, or_false] at hp
  subst hp
  intro _; exact ownFn_app)
theorem x35_74 : k_laws_toIntS (e35 (2 * 74 + 1)) := by
  unfold e35
  rw [mkEnv_own (g := (ownFn Try.prog e74 (c_laws_toIntS))) (by rfl)]
  exact ko_laws_toIntS
theorem y35 : FunOK Try.prog 35 (ownFn Try.prog e35 (c_laws_toVector 74)) := ownFn_ok e35_ok w35_pur (md := Md) (by kernel_rfl) (by kernel_rfl)
noncomputable def e117 : Env := mkEnv [] []
theorem e117_ok : EnvOK Try.prog e117 := mkEnv_ok (by intro p hp; cases hp) (by intro p hp; cases hp)
theorem w117_pur : ∀ c, opens Ap c = true → PurEnv e117 c := mkEnv_pur _ _ (by intro p hp; cases hp)
theorem o117 : PureOK Try.prog 117 true (FA fun a : TStamp => p_laws_toStamp a) := pure_tells e117_ok w117_pur (md := Md) (by kernel_rfl) (A := c_laws_toStamp) (by kernel_rfl) (by
  rintro x b hb
  exact d_laws_toStamp x hb)
noncomputable def e62 : Env := mkEnv [(117, true, FA fun a : TStamp => p_laws_toStamp a)] [(35, (ownFn Try.prog e35 (c_laws_toVector 74)))]
theorem e62_ok : EnvOK Try.prog e62 := mkEnv_ok (by
  intro p hp
  simp only [List.mem_cons, List.not_mem_nil, or_false] at hp
  subst hp
  exact o117) (by
  intro p hp
  simp only [List.mem_cons, List.not_mem_nil, or_false] at hp
  subst hp
  exact y35)
theorem w62_pur : ∀ c, opens Ap c = true → PurEnv e62 c := mkEnv_pur _ _ (by
  intro p hp
  simp only [List.mem_cons, List.not_mem_nil, or_false] at hp
  subst hp
  intro _; exact ownFn_app)
theorem u62_117 : e62 (2 * 117) = pureFn true (FA fun a : TStamp => p_laws_toStamp a) := by
  unfold e62
  exact mkEnv_at (by rfl)
theorem x62_35 : k_laws_toVector (e62 (2 * 35 + 1)) := by
  unfold e62
  rw [mkEnv_own (g := (ownFn Try.prog e35 (c_laws_toVector 74))) (by rfl)]
  exact ko_laws_toVector x35_74
theorem y62 : FunOK Try.prog 62 (ownFn Try.prog e62 (c_laws_toOp 35 117)) := ownFn_ok e62_ok w62_pur (md := Md) (by kernel_rfl) (by kernel_rfl)
noncomputable def e17 : Env := mkEnv [] [(62, (ownFn Try.prog e62 (c_laws_toOp 35 117)))]
theorem e17_ok : EnvOK Try.prog e17 := mkEnv_ok (by intro p hp; cases hp) (by
  intro p hp
  simp only [List.mem_cons, List.not_mem_nil, or_false] at hp
  subst hp
  exact y62)
theorem w17_pur : ∀ c, opens Ap c = true → PurEnv e17 c := mkEnv_pur _ _ (by
  intro p hp
  simp only [List.mem_cons, List.not_mem_nil, or_false] at hp
  subst hp
  intro _; exact ownFn_app)
theorem x17_62 : k_laws_toOp (e17 (2 * 62 + 1)) := by
  unfold e17
  rw [mkEnv_own (g := (ownFn Try.prog e62 (c_laws_toOp 35 117))) (by rfl)]
  exact ko_laws_toOp u62_117 x62_35
theorem o17 : PureOK Try.prog 17 false (FA fun a : List TOp => p_laws_toOpS a) := pure_tells e17_ok w17_pur (md := Md) (by kernel_rfl) (A := c_laws_toOpS 62) (by kernel_rfl) (by
  rintro x b hb
  exact d_laws_toOpS x17_62 x hb)
theorem y17 : FunOK Try.prog 17 (ownFn Try.prog e17 (c_laws_toOpS 62)) := ownFn_ok e17_ok w17_pur (md := Md) (by kernel_rfl) (by kernel_rfl)
noncomputable def e111 : Env := mkEnv [] []
theorem e111_ok : EnvOK Try.prog e111 := mkEnv_ok (by intro p hp; cases hp) (by intro p hp; cases hp)
theorem w111_pur : ∀ c, opens Ap c = true → PurEnv e111 c := mkEnv_pur _ _ (by intro p hp; cases hp)
theorem o111 : PureOK Try.prog 111 true (FA fun a : TOp => p_spec_l08Stamp a) := pure_tells e111_ok w111_pur (md := Md) (by kernel_rfl) (A := c_spec_l08Stamp) (by kernel_rfl) (by
  rintro x b hb
  exact d_spec_l08Stamp x hb)
noncomputable def e112 : Env := mkEnv [] []
theorem e112_ok : EnvOK Try.prog e112 := mkEnv_ok (by intro p hp; cases hp) (by intro p hp; cases hp)
theorem w112_pur : ∀ c, opens Ap c = true → PurEnv e112 c := mkEnv_pur _ _ (by intro p hp; cases hp)
theorem o112 : PureOK Try.prog 112 true (FA fun a : TStamp => p_spec_StampOK a) := pure_tells e112_ok w112_pur (md := Md) (by kernel_rfl) (A := c_spec_StampOK) (by kernel_rfl) (by
  rintro x b hb
  exact d_spec_StampOK x hb)
noncomputable def e72 : Env := mkEnv [] []
theorem e72_ok : EnvOK Try.prog e72 := mkEnv_ok (by intro p hp; cases hp) (by intro p hp; cases hp)
theorem w72_pur : ∀ c, opens Ap c = true → PurEnv e72 c := mkEnv_pur _ _ (by intro p hp; cases hp)
theorem o72 : PureOK Try.prog 72 true (FA fun a : TVec => p_spec_VecOK a) := pure_tells e72_ok w72_pur (md := Md) (by kernel_rfl) (A := c_spec_VecOK) (by kernel_rfl) (by
  rintro x b hb
  exact d_spec_VecOK x hb)
noncomputable def e113 : Env := mkEnv [] []
theorem e113_ok : EnvOK Try.prog e113 := mkEnv_ok (by intro p hp; cases hp) (by intro p hp; cases hp)
theorem w113_pur : ∀ c, opens Ap c = true → PurEnv e113 c := mkEnv_pur _ _ (by intro p hp; cases hp)
theorem o113 : PureOK Try.prog 113 true (FA fun a : TStamp => p_spec_l02None a) := pure_tells e113_ok w113_pur (md := Md) (by kernel_rfl) (A := c_spec_l02None) (by kernel_rfl) (by
  rintro x b hb
  exact d_spec_l02None x hb)
noncomputable def e114 : Env := mkEnv [] []
theorem e114_ok : EnvOK Try.prog e114 := mkEnv_ok (by intro p hp; cases hp) (by intro p hp; cases hp)
theorem w114_pur : ∀ c, opens Ap c = true → PurEnv e114 c := mkEnv_pur _ _ (by intro p hp; cases hp)
theorem o114 : PureOK Try.prog 114 true (FA fun a : TStamp × TStamp => p_spec_StampLess a.1 a.2) := pure_tells e114_ok w114_pur (md := Md) (by kernel_rfl) (A := c_spec_StampLess) (by kernel_rfl) (by
  rintro ⟨x, y⟩ b hb
  exact d_spec_StampLess x y hb)
noncomputable def e115 : Env := mkEnv [] []
theorem e115_ok : EnvOK Try.prog e115 := mkEnv_ok (by intro p hp; cases hp) (by intro p hp; cases hp)
theorem w115_pur : ∀ c, opens Ap c = true → PurEnv e115 c := mkEnv_pur _ _ (by intro p hp; cases hp)
theorem o115 : PureOK Try.prog 115 true (FA fun a : Int => p_spec_l04Char a) := pure_tells e115_ok w115_pur (md := Md) (by kernel_rfl) (A := c_spec_l04Char) (by kernel_rfl) (by
  rintro x b hb
  exact d_spec_l04Char x hb)
noncomputable def e58 : Env := mkEnv [(111, true, FA fun a : TOp => p_spec_l08Stamp a), (112, true, FA fun a : TStamp => p_spec_StampOK a), (72, true, FA fun a : TVec => p_spec_VecOK a), (113, true, FA fun a : TStamp => p_spec_l02None a), (114, true, FA fun a : TStamp × TStamp => p_spec_StampLess a.1 a.2), (115, true, FA fun a : Int => p_spec_l04Char a)] []
theorem e58_ok : EnvOK Try.prog e58 := mkEnv_ok (by
  intro p hp
  simp only [List.mem_cons, List.not_mem_nil, or_false] at hp
  rcases hp with rfl | rfl | rfl | rfl | rfl | rfl
  · exact o111
  · exact o112
  · exact o72
  · exact o113
  · exact o114
  · exact o115) (by intro p hp; cases hp)
theorem w58_pur : ∀ c, opens Ap c = true → PurEnv e58 c := mkEnv_pur _ _ (by intro p hp; cases hp)
theorem u58_111 : e58 (2 * 111) = pureFn true (FA fun a : TOp => p_spec_l08Stamp a) := by
  unfold e58
  exact mkEnv_at (by rfl)
theorem u58_112 : e58 (2 * 112) = pureFn true (FA fun a : TStamp => p_spec_StampOK a) := by
  unfold e58
  exact mkEnv_at (by rfl)
theorem u58_72 : e58 (2 * 72) = pureFn true (FA fun a : TVec => p_spec_VecOK a) := by
  unfold e58
  exact mkEnv_at (by rfl)
theorem u58_113 : e58 (2 * 113) = pureFn true (FA fun a : TStamp => p_spec_l02None a) := by
  unfold e58
  exact mkEnv_at (by rfl)
theorem u58_114 : e58 (2 * 114) = pureFn true (FA fun a : TStamp × TStamp => p_spec_StampLess a.1 a.2) := by
  unfold e58
  exact mkEnv_at (by rfl)
theorem u58_115 : e58 (2 * 115) = pureFn true (FA fun a : Int => p_spec_l04Char a) := by
  unfold e58
  exact mkEnv_at (by rfl)
theorem o58 : PureOK Try.prog 58 true (FA fun a : TOp => p_spec_l08OpOK a) := pure_tells e58_ok w58_pur (md := Md) (by kernel_rfl) (A := c_spec_l08OpOK 111 112 72 113 114 115) (by kernel_rfl) (by
  rintro x b hb
  exact d_spec_l08OpOK u58_111 u58_112 u58_72 u58_113 u58_115 u58_114 x hb)
noncomputable def e116 : Env := mkEnv [] []
theorem e116_ok : EnvOK Try.prog e116 := mkEnv_ok (by intro p hp; cases hp) (by intro p hp; cases hp)
theorem w116_pur : ∀ c, opens Ap c = true → PurEnv e116 c := mkEnv_pur _ _ (by intro p hp; cases hp)
theorem y116 : FunOK Try.prog 116 (ownFn Try.prog e116 (c_spec_l02New)) := ownFn_ok e116_ok w116_pur (md := Md) (by kernel_rfl) (by kernel_rfl)
noncomputable def e59 : Env := mkEnv [] [(116, (ownFn Try.prog e116 (c_spec_l02New)))]
theorem e59_ok : EnvOK Try.prog e59 := mkEnv_ok (by intro p hp; cases hp) (by
  intro p hp
  simp only [List.mem_cons, List.not_mem_nil, or_false] at hp
  subst hp
  exact y116)
theorem w59_pur : ∀ c, opens Ap c = true → PurEnv e59 c := mkEnv_pur _ _ (by
  intro p hp
  simp only [List.mem_cons, List.not_mem_nil, or_false] at hp
  subst hp
  intro _; exact ownFn_app)
theorem x59_116 : k_spec_l02New (e59 (2 * 116 + 1)) := by
  unfold e59
  rw [mkEnv_own (g := (ownFn Try.prog e116 (c_spec_l02New))) (by rfl)]
  exact ko_spec_l02New
theorem o59 : PureOK Try.prog 59 true (FA fun a : List TOp => p_spec_l08Counts a) := pure_tells e59_ok w59_pur (md := Md) (by kernel_rfl) (A := c_spec_l08Counts 116) (by kernel_rfl) (by
  rintro x b hb
  exact d_spec_l08Counts x59_116 x hb)
noncomputable def e104 : Env := mkEnv [] []
theorem e104_ok : EnvOK Try.prog e104 := mkEnv_ok (by intro p hp; cases hp) (by intro p hp; cases hp)
theorem w104_pur : ∀ c, opens Ap c = true → PurEnv e104 c := mkEnv_pur _ _ (by intro p hp; cases hp)
theorem o104 : PureOK Try.prog 104 true (FA fun a : List TOp × Int × Int => p_spec_l08Find a.1 a.2.1 a.2.2) := pure_tells e104_ok w104_pur (md := Md) (by kernel_rfl) (A := c_spec_l08Find) (by kernel_rfl) (by
  rintro ⟨x, y, z⟩ b hb
  exact d_spec_l08Find x y z hb)
noncomputable def e60 : Env := mkEnv [(104, true, FA fun a : List TOp × Int × Int => p_spec_l08Find a.1 a.2.1 a.2.2), (111, true, FA fun a : TOp => p_spec_l08Stamp a), (114, true, FA fun a : TStamp × TStamp => p_spec_StampLess a.1 a.2)] []
theorem e60_ok : EnvOK Try.prog e60 := mkEnv_ok (by
  intro p hp
  simp only [List.mem_cons, List.not_mem_nil, or_false] at hp
  rcases hp with rfl | rfl | rfl
  · exact o104
  · exact o111
  · exact o114) (by intro p hp; cases hp)
theorem w60_pur : ∀ c, opens Ap c = true → PurEnv e60 c := mkEnv_pur _ _ (by intro p hp; cases hp)
theorem u60_104 : e60 (2 * 104) = pureFn true (FA fun a : List TOp × Int × Int => p_spec_l08Find a.1 a.2.1 a.2.2) := by
  unfold e60
  exact mkEnv_at (by rfl)
theorem u60_111 : e60 (2 * 111) = pureFn true (FA fun a : TOp => p_spec_l08Stamp a) := by
  unfold e60
  exact mkEnv_at (by rfl)
theorem u60_114 : e60 (2 * 114) = pureFn true (FA fun a : TStamp × TStamp => p_spec_StampLess a.1 a.2) := by
  unfold e60
  exact mkEnv_at (by rfl)
theorem o60 : PureOK Try.prog 60 true (FA fun a : List TOp × TVec × TOp => p_spec_l08Causes a.1 a.2.1 a.2.2) := pure_tells e60_ok w60_pur (md := Md) (by kernel_rfl) (A := c_spec_l08Causes 104 111 114) (by kernel_rfl) (by
  rintro ⟨x, y, z⟩ b hb
  exact d_spec_l08Causes u60_104 u60_111 u60_114 x y z hb)
noncomputable def e61 : Env := mkEnv [] []
theorem e61_ok : EnvOK Try.prog e61 := mkEnv_ok (by intro p hp; cases hp) (by intro p hp; cases hp)
theorem w61_pur : ∀ c, opens Ap c = true → PurEnv e61 c := mkEnv_pur _ _ (by intro p hp; cases hp)
theorem o61 : PureOK Try.prog 61 true (FA fun a : Int => p_spec_l08Thing a) := pure_tells e61_ok w61_pur (md := Md) (by kernel_rfl) (A := c_spec_l08Thing) (by kernel_rfl) (by
  rintro x b hb
  exact d_spec_l08Thing x hb)
noncomputable def e16 : Env := mkEnv [(58, true, FA fun a : TOp => p_spec_l08OpOK a), (59, true, FA fun a : List TOp => p_spec_l08Counts a), (60, true, FA fun a : List TOp × TVec × TOp => p_spec_l08Causes a.1 a.2.1 a.2.2), (61, true, FA fun a : Int => p_spec_l08Thing a)] []
theorem e16_ok : EnvOK Try.prog e16 := mkEnv_ok (by
  intro p hp
  simp only [List.mem_cons, List.not_mem_nil, or_false] at hp
  rcases hp with rfl | rfl | rfl | rfl
  · exact o58
  · exact o59
  · exact o60
  · exact o61) (by intro p hp; cases hp)
theorem w16_pur : ∀ c, opens Ap c = true → PurEnv e16 c := mkEnv_pur _ _ (by intro p hp; cases hp)
theorem u16_58 : e16 (2 * 58) = pureFn true (FA fun a : TOp => p_spec_l08OpOK a) := by
  unfold e16
  exact mkEnv_at (by rfl)
theorem u16_59 : e16 (2 * 59) = pureFn true (FA fun a : List TOp => p_spec_l08Counts a) := by
  unfold e16
  exact mkEnv_at (by rfl)
theorem u16_60 : e16 (2 * 60) = pureFn true (FA fun a : List TOp × TVec × TOp => p_spec_l08Causes a.1 a.2.1 a.2.2) := by
  unfold e16
  exact mkEnv_at (by rfl)
theorem u16_61 : e16 (2 * 61) = pureFn true (FA fun a : Int => p_spec_l08Thing a) := by
  unfold e16
  exact mkEnv_at (by rfl)
theorem o16 : PureOK Try.prog 16 true (FA fun a : List TOp => p_spec_LogOK a) := pure_tells e16_ok w16_pur (md := Md) (by kernel_rfl) (A := c_spec_LogOK 58 59 60 61) (by kernel_rfl) (by
  rintro x b hb
  exact d_spec_LogOK u16_58 u16_59 u16_60 u16_61 x hb)
noncomputable def e132 : Env := mkEnv [] []
theorem e132_ok : EnvOK Try.prog e132 := mkEnv_ok (by intro p hp; cases hp) (by intro p hp; cases hp)
theorem w132_pur : ∀ c, opens Ap c = true → PurEnv e132 c := mkEnv_pur _ _ (by intro p hp; cases hp)
theorem o132 : PureOK Try.prog 132 true (FA fun a : List Int × List Int => p_spec_l05Same a.1 a.2) := pure_tells e132_ok w132_pur (md := Md) (by kernel_rfl) (A := c_spec_l05Same) (by kernel_rfl) (by
  rintro ⟨x, y⟩ b hb
  exact d_spec_l05Same x y hb)
noncomputable def e105 : Env := mkEnv [(132, true, FA fun a : List Int × List Int => p_spec_l05Same a.1 a.2)] []
theorem e105_ok : EnvOK Try.prog e105 := mkEnv_ok (by
  intro p hp
  simp only [List.mem_cons, List.not_mem_nil, or_false] at hp
  subst hp
  exact o132) (by intro p hp; cases hp)
theorem w105_pur : ∀ c, opens Ap c = true → PurEnv e105 c := mkEnv_pur _ _ (by intro p hp; cases hp)
theorem u105_132 : e105 (2 * 132) = pureFn true (FA fun a : List Int × List Int => p_spec_l05Same a.1 a.2) := by
  unfold e105
  exact mkEnv_at (by rfl)
theorem o105 : PureOK Try.prog 105 true (FA fun a : TOp × TOp => p_spec_l08SameOp a.1 a.2) := pure_tells e105_ok w105_pur (md := Md) (by kernel_rfl) (A := c_spec_l08SameOp 132) (by kernel_rfl) (by
  rintro ⟨x, y⟩ b hb
  exact d_spec_l08SameOp u105_132 x y hb)
noncomputable def e77 : Env := mkEnv [(16, true, FA fun a : List TOp => p_spec_LogOK a), (104, true, FA fun a : List TOp × Int × Int => p_spec_l08Find a.1 a.2.1 a.2.2), (105, true, FA fun a : TOp × TOp => p_spec_l08SameOp a.1 a.2)] []
theorem e77_ok : EnvOK Try.prog e77 := mkEnv_ok (by
  intro p hp
  simp only [List.mem_cons, List.not_mem_nil, or_false] at hp
  rcases hp with rfl | rfl | rfl
  · exact o16
  · exact o104
  · exact o105) (by intro p hp; cases hp)
theorem w77_pur : ∀ c, opens Ap c = true → PurEnv e77 c := mkEnv_pur _ _ (by intro p hp; cases hp)
theorem u77_16 : e77 (2 * 16) = pureFn true (FA fun a : List TOp => p_spec_LogOK a) := by
  unfold e77
  exact mkEnv_at (by rfl)
theorem u77_104 : e77 (2 * 104) = pureFn true (FA fun a : List TOp × Int × Int => p_spec_l08Find a.1 a.2.1 a.2.2) := by
  unfold e77
  exact mkEnv_at (by rfl)
theorem u77_105 : e77 (2 * 105) = pureFn true (FA fun a : TOp × TOp => p_spec_l08SameOp a.1 a.2) := by
  unfold e77
  exact mkEnv_at (by rfl)
theorem o77 : PureOK Try.prog 77 true (FA fun a : List TOp × List TOp => p_spec_l11Code a.1 a.2) := pure_tells e77_ok w77_pur (md := Md) (by kernel_rfl) (A := c_spec_l11Code 16 104 105) (by kernel_rfl) (by
  rintro ⟨x, y⟩ b hb
  exact d_spec_l11Code u77_16 u77_104 u77_105 x y hb)
noncomputable def e91 : Env := mkEnv [(61, true, FA fun a : Int => p_spec_l08Thing a)] []
theorem e91_ok : EnvOK Try.prog e91 := mkEnv_ok (by
  intro p hp
  simp only [List.mem_cons, List.not_mem_nil, or_false] at hp
  subst hp
  exact o61) (by intro p hp; cases hp)
theorem w91_pur : ∀ c, opens Ap c = true → PurEnv e91 c := mkEnv_pur _ _ (by intro p hp; cases hp)
theorem u91_61 : e91 (2 * 61) = pureFn true (FA fun a : Int => p_spec_l08Thing a) := by
  unfold e91
  exact mkEnv_at (by rfl)
theorem o91 : PureOK Try.prog 91 true (FA fun a : List TOp × TOp => p_spec_l08KindFits a.1 a.2) := pure_tells e91_ok w91_pur (md := Md) (by kernel_rfl) (A := c_spec_l08KindFits 61) (by kernel_rfl) (by
  rintro ⟨x, y⟩ b hb
  exact d_spec_l08KindFits u91_61 x y hb)
noncomputable def e122 : Env := mkEnv [] []
theorem e122_ok : EnvOK Try.prog e122 := mkEnv_ok (by intro p hp; cases hp) (by intro p hp; cases hp)
theorem w122_pur : ∀ c, opens Ap c = true → PurEnv e122 c := mkEnv_pur _ _ (by intro p hp; cases hp)
theorem y122 : FunOK Try.prog 122 (ownFn Try.prog e122 (c_spec_l02Copy)) := ownFn_ok e122_ok w122_pur (md := Md) (by kernel_rfl) (by kernel_rfl)
noncomputable def e73 : Env := mkEnv [] [(122, (ownFn Try.prog e122 (c_spec_l02Copy)))]
theorem e73_ok : EnvOK Try.prog e73 := mkEnv_ok (by intro p hp; cases hp) (by
  intro p hp
  simp only [List.mem_cons, List.not_mem_nil, or_false] at hp
  subst hp
  exact y122)
theorem w73_pur : ∀ c, opens Ap c = true → PurEnv e73 c := mkEnv_pur _ _ (by
  intro p hp
  simp only [List.mem_cons, List.not_mem_nil, or_false] at hp
  subst hp
  intro _; exact ownFn_app)
theorem x73_122 : k_spec_l02Copy (e73 (2 * 122 + 1)) := by
  unfold e73
  rw [mkEnv_own (g := (ownFn Try.prog e122 (c_spec_l02Copy))) (by rfl)]
  exact ko_spec_l02Copy
theorem o73 : PureOK Try.prog 73 true (FA fun a : TOp => p_spec_l08CopyOp a) := pure_tells e73_ok w73_pur (md := Md) (by kernel_rfl) (A := c_spec_l08CopyOp 122) (by kernel_rfl) (by
  rintro x b hb
  exact d_spec_l08CopyOp x73_122 x hb)
noncomputable def e92 : Env := mkEnv [(73, true, FA fun a : TOp => p_spec_l08CopyOp a)] []
theorem e92_ok : EnvOK Try.prog e92 := mkEnv_ok (by
  intro p hp
  simp only [List.mem_cons, List.not_mem_nil, or_false] at hp
  subst hp
  exact o73) (by intro p hp; cases hp)
theorem w92_pur : ∀ c, opens Ap c = true → PurEnv e92 c := mkEnv_pur _ _ (by intro p hp; cases hp)
theorem u92_73 : e92 (2 * 73) = pureFn true (FA fun a : TOp => p_spec_l08CopyOp a) := by
  unfold e92
  exact mkEnv_at (by rfl)
theorem o92 : PureOK Try.prog 92 false (FA fun a : List TOp => p_spec_l08Copy a) := pure_tells e92_ok w92_pur (md := Md) (by kernel_rfl) (A := c_spec_l08Copy 73) (by kernel_rfl) (by
  rintro x b hb
  exact d_spec_l08Copy u92_73 x hb)
noncomputable def e93 : Env := mkEnv [] []
theorem e93_ok : EnvOK Try.prog e93 := mkEnv_ok (by intro p hp; cases hp) (by intro p hp; cases hp)
theorem w93_pur : ∀ c, opens Ap c = true → PurEnv e93 c := mkEnv_pur _ _ (by intro p hp; cases hp)
theorem o93 : PureOK Try.prog 93 false (FA fun a : List TOp × TOp => p_spec_l08Insert a.1 a.2) := pure_tells e93_ok w93_pur (md := Md) (by kernel_rfl) (A := c_spec_l08Insert) (by kernel_rfl) (by
  rintro ⟨x, y⟩ b hb
  exact d_spec_l08Insert x y hb)
noncomputable def e49 : Env := mkEnv [(77, true, FA fun a : List TOp × List TOp => p_spec_l11Code a.1 a.2), (91, true, FA fun a : List TOp × TOp => p_spec_l08KindFits a.1 a.2), (92, false, FA fun a : List TOp => p_spec_l08Copy a), (59, true, FA fun a : List TOp => p_spec_l08Counts a), (73, true, FA fun a : TOp => p_spec_l08CopyOp a), (93, false, FA fun a : List TOp × TOp => p_spec_l08Insert a.1 a.2)] []
theorem e49_ok : EnvOK Try.prog e49 := mkEnv_ok (by
  intro p hp
  simp only [List.mem_cons, List.not_mem_nil, or_false] at hp
  rcases hp with rfl | rfl | rfl | rfl | rfl | rfl
  · exact o77
  · exact o91
  · exact o92
  · exact o59
  · exact o73
  · exact o93) (by intro p hp; cases hp)
theorem w49_pur : ∀ c, opens Ap c = true → PurEnv e49 c := mkEnv_pur _ _ (by intro p hp; cases hp)
theorem u49_77 : e49 (2 * 77) = pureFn true (FA fun a : List TOp × List TOp => p_spec_l11Code a.1 a.2) := by
  unfold e49
  exact mkEnv_at (by rfl)
theorem u49_91 : e49 (2 * 91) = pureFn true (FA fun a : List TOp × TOp => p_spec_l08KindFits a.1 a.2) := by
  unfold e49
  exact mkEnv_at (by rfl)
theorem u49_92 : e49 (2 * 92) = pureFn false (FA fun a : List TOp => p_spec_l08Copy a) := by
  unfold e49
  exact mkEnv_at (by rfl)
theorem u49_59 : e49 (2 * 59) = pureFn true (FA fun a : List TOp => p_spec_l08Counts a) := by
  unfold e49
  exact mkEnv_at (by rfl)
theorem u49_73 : e49 (2 * 73) = pureFn true (FA fun a : TOp => p_spec_l08CopyOp a) := by
  unfold e49
  exact mkEnv_at (by rfl)
theorem u49_93 : e49 (2 * 93) = pureFn false (FA fun a : List TOp × TOp => p_spec_l08Insert a.1 a.2) := by
  unfold e49
  exact mkEnv_at (by rfl)
theorem o49 : PureOK Try.prog 49 false (FA fun a : List TOp × List TOp => p_spec_BranchMerge a.1 a.2) := pure_tells e49_ok w49_pur (md := Md) (by kernel_rfl) (A := c_spec_BranchMerge 77 91 92 59 73 93) (by kernel_rfl) (by
  rintro ⟨x, y⟩ b hb
  exact d_spec_BranchMerge u49_77 u49_91 u49_92 u49_59 u49_73 u49_93 x y hb)
noncomputable def e120 : Env := mkEnv [] []
theorem e120_ok : EnvOK Try.prog e120 := mkEnv_ok (by intro p hp; cases hp) (by intro p hp; cases hp)
theorem w120_pur : ∀ c, opens Ap c = true → PurEnv e120 c := mkEnv_pur _ _ (by intro p hp; cases hp)
theorem o120 : PureOK Try.prog 120 true (FA fun a : TOp => p_impl_Op_stamp a) := pure_tells e120_ok w120_pur (md := Md) (by kernel_rfl) (A := c_impl_Op_stamp) (by kernel_rfl) (by
  rintro x b hb
  exact d_impl_Op_stamp x hb)
noncomputable def e69 : Env := mkEnv [] []
theorem e69_ok : EnvOK Try.prog e69 := mkEnv_ok (by intro p hp; cases hp) (by intro p hp; cases hp)
theorem w69_pur : ∀ c, opens Ap c = true → PurEnv e69 c := mkEnv_pur _ _ (by intro p hp; cases hp)
theorem o69 : PureOK Try.prog 69 true (FA fun a : Int => p_impl_isActor a) := pure_tells e69_ok w69_pur (md := Md) (by kernel_rfl) (A := c_impl_isActor) (by kernel_rfl) (by
  rintro x b hb
  exact d_impl_isActor x hb)
noncomputable def e133 : Env := mkEnv [(69, true, FA fun a : Int => p_impl_isActor a)] []
theorem e133_ok : EnvOK Try.prog e133 := mkEnv_ok (by
  intro p hp
  simp only [List.mem_cons, List.not_mem_nil, or_false] at hp
  subst hp
  exact o69) (by intro p hp; cases hp)
theorem w133_pur : ∀ c, opens Ap c = true → PurEnv e133 c := mkEnv_pur _ _ (by intro p hp; cases hp)
theorem u133_69 : e133 (2 * 69) = pureFn true (FA fun a : Int => p_impl_isActor a) := by
  unfold e133
  exact mkEnv_at (by rfl)
theorem o133 : PureOK Try.prog 133 true (FA fun a : TStamp => p_impl_StampOK a) := pure_tells e133_ok w133_pur (md := Md) (by kernel_rfl) (A := c_impl_StampOK 69) (by kernel_rfl) (by
  rintro x b hb
  exact d_impl_StampOK u133_69 x hb)
noncomputable def e75 : Env := mkEnv [] []
theorem e75_ok : EnvOK Try.prog e75 := mkEnv_ok (by intro p hp; cases hp) (by intro p hp; cases hp)
theorem w75_pur : ∀ c, opens Ap c = true → PurEnv e75 c := mkEnv_pur _ _ (by intro p hp; cases hp)
theorem o75 : PureOK Try.prog 75 true (FA fun a : TVec => p_impl_VecOK a) := pure_tells e75_ok w75_pur (md := Md) (by kernel_rfl) (A := c_impl_VecOK) (by kernel_rfl) (by
  rintro x b hb
  exact d_impl_VecOK x hb)
noncomputable def e119 : Env := mkEnv [] []
theorem e119_ok : EnvOK Try.prog e119 := mkEnv_ok (by intro p hp; cases hp) (by intro p hp; cases hp)
theorem w119_pur : ∀ c, opens Ap c = true → PurEnv e119 c := mkEnv_pur _ _ (by intro p hp; cases hp)
theorem o119 : PureOK Try.prog 119 true (FA fun a : TStamp × TStamp => p_impl_StampLess a.1 a.2) := pure_tells e119_ok w119_pur (md := Md) (by kernel_rfl) (A := c_impl_StampLess) (by kernel_rfl) (by
  rintro ⟨x, y⟩ b hb
  exact d_impl_StampLess x y hb)
noncomputable def e134 : Env := mkEnv [] []
theorem e134_ok : EnvOK Try.prog e134 := mkEnv_ok (by intro p hp; cases hp) (by intro p hp; cases hp)
theorem w134_pur : ∀ c, opens Ap c = true → PurEnv e134 c := mkEnv_pur _ _ (by intro p hp; cases hp)
theorem o134 : PureOK Try.prog 134 true (FA fun a : Int => p_impl_charOK a) := pure_tells e134_ok w134_pur (md := Md) (by kernel_rfl) (A := c_impl_charOK) (by kernel_rfl) (by
  rintro x b hb
  exact d_impl_charOK x hb)
noncomputable def e106 : Env := mkEnv [(120, true, FA fun a : TOp => p_impl_Op_stamp a), (133, true, FA fun a : TStamp => p_impl_StampOK a), (75, true, FA fun a : TVec => p_impl_VecOK a), (119, true, FA fun a : TStamp × TStamp => p_impl_StampLess a.1 a.2), (134, true, FA fun a : Int => p_impl_charOK a)] []
theorem e106_ok : EnvOK Try.prog e106 := mkEnv_ok (by
  intro p hp
  simp only [List.mem_cons, List.not_mem_nil, or_false] at hp
  rcases hp with rfl | rfl | rfl | rfl | rfl
  · exact o120
  · exact o133
  · exact o75
  · exact o119
  · exact o134) (by intro p hp; cases hp)
theorem w106_pur : ∀ c, opens Ap c = true → PurEnv e106 c := mkEnv_pur _ _ (by intro p hp; cases hp)
theorem u106_120 : e106 (2 * 120) = pureFn true (FA fun a : TOp => p_impl_Op_stamp a) := by
  unfold e106
  exact mkEnv_at (by rfl)
theorem u106_133 : e106 (2 * 133) = pureFn true (FA fun a : TStamp => p_impl_StampOK a) := by
  unfold e106
  exact mkEnv_at (by rfl)
theorem u106_75 : e106 (2 * 75) = pureFn true (FA fun a : TVec => p_impl_VecOK a) := by
  unfold e106
  exact mkEnv_at (by rfl)
theorem u106_119 : e106 (2 * 119) = pureFn true (FA fun a : TStamp × TStamp => p_impl_StampLess a.1 a.2) := by
  unfold e106
  exact mkEnv_at (by rfl)
theorem u106_134 : e106 (2 * 134) = pureFn true (FA fun a : Int => p_impl_charOK a) := by
  unfold e106
  exact mkEnv_at (by rfl)
theorem o106 : PureOK Try.prog 106 true (FA fun a : TOp => p_impl_opOK a) := pure_tells e106_ok w106_pur (md := Md) (by kernel_rfl) (A := c_impl_opOK 120 133 75 119 134) (by kernel_rfl) (by
  rintro x b hb
  exact d_impl_opOK u106_120 u106_133 u106_75 u106_134 u106_119 x hb)
noncomputable def e118 : Env := mkEnv [] []
theorem e118_ok : EnvOK Try.prog e118 := mkEnv_ok (by intro p hp; cases hp) (by intro p hp; cases hp)
theorem w118_pur : ∀ c, opens Ap c = true → PurEnv e118 c := mkEnv_pur _ _ (by intro p hp; cases hp)
theorem o118 : PureOK Try.prog 118 true (FA fun a : TOp => p_impl_Op_thing a) := pure_tells e118_ok w118_pur (md := Md) (by kernel_rfl) (A := c_impl_Op_thing) (by kernel_rfl) (by
  rintro x b hb
  exact d_impl_Op_thing x hb)
noncomputable def e110 : Env := mkEnv [(118, true, FA fun a : TOp => p_impl_Op_thing a), (120, true, FA fun a : TOp => p_impl_Op_stamp a), (119, true, FA fun a : TStamp × TStamp => p_impl_StampLess a.1 a.2)] []
theorem e110_ok : EnvOK Try.prog e110 := mkEnv_ok (by
  intro p hp
  simp only [List.mem_cons, List.not_mem_nil, or_false] at hp
  rcases hp with rfl | rfl | rfl
  · exact o118
  · exact o120
  · exact o119) (by intro p hp; cases hp)
theorem w110_pur : ∀ c, opens Ap c = true → PurEnv e110 c := mkEnv_pur _ _ (by intro p hp; cases hp)
theorem u110_118 : e110 (2 * 118) = pureFn true (FA fun a : TOp => p_impl_Op_thing a) := by
  unfold e110
  exact mkEnv_at (by rfl)
theorem u110_120 : e110 (2 * 120) = pureFn true (FA fun a : TOp => p_impl_Op_stamp a) := by
  unfold e110
  exact mkEnv_at (by rfl)
theorem u110_119 : e110 (2 * 119) = pureFn true (FA fun a : TStamp × TStamp => p_impl_StampLess a.1 a.2) := by
  unfold e110
  exact mkEnv_at (by rfl)
theorem y110 : FunOK Try.prog 110 (runIn Try.prog e110 (c_impl_book_put 118 120 119)) := runIn_ok e110_ok w110_pur (md := Md) (by kernel_rfl) (by kernel_rfl)
noncomputable def e63 : Env := mkEnv [(106, true, FA fun a : TOp => p_impl_opOK a), (118, true, FA fun a : TOp => p_impl_Op_thing a), (120, true, FA fun a : TOp => p_impl_Op_stamp a), (119, true, FA fun a : TStamp × TStamp => p_impl_StampLess a.1 a.2)] [(110, (runIn Try.prog e110 (c_impl_book_put 118 120 119)))]
theorem e63_ok : EnvOK Try.prog e63 := mkEnv_ok (by
  intro p hp
  simp only [List.mem_cons, List.not_mem_nil, or_false] at hp
  rcases hp with rfl | rfl | rfl | rfl
  · exact o106
  · exact o118
  · exact o120
  · exact o119) (by
  intro p hp
  simp only [List.mem_cons, List.not_mem_nil, or_false] at hp
  subst hp
  exact y110)
theorem w63_pur : ∀ c, opens Ap c = true → PurEnv e63 c := mkEnv_pur _ _ (by
  intro p hp
  simp only [List.mem_cons, List.not_mem_nil, or_false] at hp
  subst hp
  intro h; exact absurd h (by rw [show Ap 110 = false from rfl]; exact Bool.false_ne_true))
theorem u63_106 : e63 (2 * 106) = pureFn true (FA fun a : TOp => p_impl_opOK a) := by
  unfold e63
  exact mkEnv_at (by rfl)
theorem u63_118 : e63 (2 * 118) = pureFn true (FA fun a : TOp => p_impl_Op_thing a) := by
  unfold e63
  exact mkEnv_at (by rfl)
theorem u63_120 : e63 (2 * 120) = pureFn true (FA fun a : TOp => p_impl_Op_stamp a) := by
  unfold e63
  exact mkEnv_at (by rfl)
theorem u63_119 : e63 (2 * 119) = pureFn true (FA fun a : TStamp × TStamp => p_impl_StampLess a.1 a.2) := by
  unfold e63
  exact mkEnv_at (by rfl)
theorem x63_110 : k_impl_book_put (e63 (2 * 110 + 1)) := by
  unfold e63
  rw [mkEnv_own (g := (runIn Try.prog e110 (c_impl_book_put 118 120 119))) (by rfl)]
  exact ko_impl_book_put u110_118 u110_120 u110_119
theorem o63 : PureOK Try.prog 63 false (FA fun a : List TOp => p_impl_readBook a) := pure_tells e63_ok w63_pur (md := Md) (by kernel_rfl) (A := c_impl_readBook 106 118 110 120 119) (by kernel_rfl) (by
  rintro x b hb
  exact d_impl_readBook u63_106 u63_118 u63_120 u63_119 x63_110 x hb)
noncomputable def e135 : Env := mkEnv [] []
theorem e135_ok : EnvOK Try.prog e135 := mkEnv_ok (by intro p hp; cases hp) (by intro p hp; cases hp)
theorem w135_pur : ∀ c, opens Ap c = true → PurEnv e135 c := mkEnv_pur _ _ (by intro p hp; cases hp)
theorem o135 : PureOK Try.prog 135 true (FA fun a : TVec × TVec => p_impl_vecSame a.1 a.2) := pure_tells e135_ok w135_pur (md := Md) (by kernel_rfl) (A := c_impl_vecSame) (by kernel_rfl) (by
  rintro ⟨x, y⟩ b hb
  exact d_impl_vecSame x y hb)
noncomputable def e108 : Env := mkEnv [(135, true, FA fun a : TVec × TVec => p_impl_vecSame a.1 a.2)] []
theorem e108_ok : EnvOK Try.prog e108 := mkEnv_ok (by
  intro p hp
  simp only [List.mem_cons, List.not_mem_nil, or_false] at hp
  subst hp
  exact o135) (by intro p hp; cases hp)
theorem w108_pur : ∀ c, opens Ap c = true → PurEnv e108 c := mkEnv_pur _ _ (by intro p hp; cases hp)
theorem u108_135 : e108 (2 * 135) = pureFn true (FA fun a : TVec × TVec => p_impl_vecSame a.1 a.2) := by
  unfold e108
  exact mkEnv_at (by rfl)
theorem o108 : PureOK Try.prog 108 true (FA fun a : TOp × TOp => p_impl_opSame a.1 a.2) := pure_tells e108_ok w108_pur (md := Md) (by kernel_rfl) (A := c_impl_opSame 135) (by kernel_rfl) (by
  rintro ⟨x, y⟩ b hb
  exact d_impl_opSame u108_135 x y hb)
noncomputable def e79 : Env := mkEnv [(63, false, FA fun a : List TOp => p_impl_readBook a), (108, true, FA fun a : TOp × TOp => p_impl_opSame a.1 a.2)] []
theorem e79_ok : EnvOK Try.prog e79 := mkEnv_ok (by
  intro p hp
  simp only [List.mem_cons, List.not_mem_nil, or_false] at hp
  rcases hp with rfl | rfl
  · exact o63
  · exact o108) (by intro p hp; cases hp)
theorem w79_pur : ∀ c, opens Ap c = true → PurEnv e79 c := mkEnv_pur _ _ (by intro p hp; cases hp)
theorem u79_63 : e79 (2 * 63) = pureFn false (FA fun a : List TOp => p_impl_readBook a) := by
  unfold e79
  exact mkEnv_at (by rfl)
theorem u79_108 : e79 (2 * 108) = pureFn true (FA fun a : TOp × TOp => p_impl_opSame a.1 a.2) := by
  unfold e79
  exact mkEnv_at (by rfl)
theorem o79 : PureOK Try.prog 79 false (FA fun a : List TOp × List TOp => p_impl_readTwo a.1 a.2) := pure_tells e79_ok w79_pur (md := Md) (by kernel_rfl) (A := c_impl_readTwo 63 108) (by kernel_rfl) (by
  rintro ⟨x, y⟩ b hb
  exact d_impl_readTwo u79_63 u79_108 x y hb)
noncomputable def e123 : Env := mkEnv [] []
theorem e123_ok : EnvOK Try.prog e123 := mkEnv_ok (by intro p hp; cases hp) (by intro p hp; cases hp)
theorem w123_pur : ∀ c, opens Ap c = true → PurEnv e123 c := mkEnv_pur _ _ (by intro p hp; cases hp)
theorem y123 : FunOK Try.prog 123 (ownFn Try.prog e123 (c_impl_vecCopy)) := ownFn_ok e123_ok w123_pur (md := Md) (by kernel_rfl) (by kernel_rfl)
noncomputable def e76 : Env := mkEnv [] [(123, (ownFn Try.prog e123 (c_impl_vecCopy)))]
theorem e76_ok : EnvOK Try.prog e76 := mkEnv_ok (by intro p hp; cases hp) (by
  intro p hp
  simp only [List.mem_cons, List.not_mem_nil, or_false] at hp
  subst hp
  exact y123)
theorem w76_pur : ∀ c, opens Ap c = true → PurEnv e76 c := mkEnv_pur _ _ (by
  intro p hp
  simp only [List.mem_cons, List.not_mem_nil, or_false] at hp
  subst hp
  intro _; exact ownFn_app)
theorem x76_123 : k_impl_vecCopy (e76 (2 * 123 + 1)) := by
  unfold e76
  rw [mkEnv_own (g := (ownFn Try.prog e123 (c_impl_vecCopy))) (by rfl)]
  exact ko_impl_vecCopy
theorem y76 : FunOK Try.prog 76 (ownFn Try.prog e76 (c_impl_opCopy 123)) := ownFn_ok e76_ok w76_pur (md := Md) (by kernel_rfl) (by kernel_rfl)
noncomputable def e94 : Env := mkEnv [(79, false, FA fun a : List TOp × List TOp => p_impl_readTwo a.1 a.2)] [(76, (ownFn Try.prog e76 (c_impl_opCopy 123)))]
theorem e94_ok : EnvOK Try.prog e94 := mkEnv_ok (by
  intro p hp
  simp only [List.mem_cons, List.not_mem_nil, or_false] at hp
  subst hp
  exact o79) (by
  intro p hp
  simp only [List.mem_cons, List.not_mem_nil, or_false] at hp
  subst hp
  exact y76)
theorem w94_pur : ∀ c, opens Ap c = true → PurEnv e94 c := mkEnv_pur _ _ (by
  intro p hp
  simp only [List.mem_cons, List.not_mem_nil, or_false] at hp
  subst hp
  intro _; exact ownFn_app)
theorem u94_79 : e94 (2 * 79) = pureFn false (FA fun a : List TOp × List TOp => p_impl_readTwo a.1 a.2) := by
  unfold e94
  exact mkEnv_at (by rfl)
theorem x94_76 : k_impl_opCopy (e94 (2 * 76 + 1)) := by
  unfold e94
  rw [mkEnv_own (g := (ownFn Try.prog e76 (c_impl_opCopy 123))) (by rfl)]
  exact ko_impl_opCopy x76_123
theorem y94 : FunOK Try.prog 94 (ownFnW [true, true, false, false] Try.prog e94 (c_impl_merge 79 76)) := ownFnW_ok e94_ok w94_pur (md := Md) (by kernel_rfl) (by kernel_rfl)
noncomputable def e50 : Env := mkEnv [] [(94, (ownFnW [true, true, false, false] Try.prog e94 (c_impl_merge 79 76)))]
theorem e50_ok : EnvOK Try.prog e50 := mkEnv_ok (by intro p hp; cases hp) (by
  intro p hp
  simp only [List.mem_cons, List.not_mem_nil, or_false] at hp
  subst hp
  exact y94)
theorem w50_pur : ∀ c, opens Ap c = true → PurEnv e50 c := mkEnv_pur _ _ (by
  intro p hp
  simp only [List.mem_cons, List.not_mem_nil, or_false] at hp
  subst hp
  intro _; exact ownFnW_app)
theorem x50_94 : k_impl_merge (e50 (2 * 94 + 1)) := by
  unfold e50
  rw [mkEnv_own (g := (ownFnW [true, true, false, false] Try.prog e94 (c_impl_merge 79 76))) (by rfl)]
  exact ko_impl_merge u94_79 x94_76
theorem y50 : FunOK Try.prog 50 (ownFn Try.prog e50 (c_impl_BranchMerge 94)) := ownFn_ok e50_ok w50_pur (md := Md) (by kernel_rfl) (by kernel_rfl)
noncomputable def e28 : Env := mkEnv [] []
theorem e28_ok : EnvOK Try.prog e28 := mkEnv_ok (by intro p hp; cases hp) (by intro p hp; cases hp)
theorem w28_pur : ∀ c, opens Ap c = true → PurEnv e28 c := mkEnv_pur _ _ (by intro p hp; cases hp)
theorem o28 : PureOK Try.prog 28 true (FA fun a : List Int × List Int => p_laws_eqIntS a.1 a.2) := pure_tells e28_ok w28_pur (md := Md) (by kernel_rfl) (A := c_laws_eqIntS) (by kernel_rfl) (by
  rintro ⟨x, y⟩ b hb
  exact d_laws_eqIntS x y hb)
noncomputable def e22 : Env := mkEnv [(28, true, FA fun a : List Int × List Int => p_laws_eqIntS a.1 a.2)] []
theorem e22_ok : EnvOK Try.prog e22 := mkEnv_ok (by
  intro p hp
  simp only [List.mem_cons, List.not_mem_nil, or_false] at hp
  subst hp
  exact o28) (by intro p hp; cases hp)
theorem w22_pur : ∀ c, opens Ap c = true → PurEnv e22 c := mkEnv_pur _ _ (by intro p hp; cases hp)
theorem u22_28 : e22 (2 * 28) = pureFn true (FA fun a : List Int × List Int => p_laws_eqIntS a.1 a.2) := by
  unfold e22
  exact mkEnv_at (by rfl)
theorem o22 : PureOK Try.prog 22 true (FA fun a : TVec × TVec => p_laws_eqVector a.1 a.2) := pure_tells e22_ok w22_pur (md := Md) (by kernel_rfl) (A := c_laws_eqVector 28) (by kernel_rfl) (by
  rintro ⟨x, y⟩ b hb
  exact d_laws_eqVector u22_28 x y hb)
noncomputable def e121 : Env := mkEnv [] []
theorem e121_ok : EnvOK Try.prog e121 := mkEnv_ok (by intro p hp; cases hp) (by intro p hp; cases hp)
theorem w121_pur : ∀ c, opens Ap c = true → PurEnv e121 c := mkEnv_pur _ _ (by intro p hp; cases hp)
theorem o121 : PureOK Try.prog 121 true (FA fun a : TStamp × TStamp => p_laws_eqStamp a.1 a.2) := pure_tells e121_ok w121_pur (md := Md) (by kernel_rfl) (A := c_laws_eqStamp) (by kernel_rfl) (by
  rintro ⟨x, y⟩ b hb
  exact d_laws_eqStamp x y hb)
noncomputable def e64 : Env := mkEnv [(22, true, FA fun a : TVec × TVec => p_laws_eqVector a.1 a.2), (121, true, FA fun a : TStamp × TStamp => p_laws_eqStamp a.1 a.2)] []
theorem e64_ok : EnvOK Try.prog e64 := mkEnv_ok (by
  intro p hp
  simp only [List.mem_cons, List.not_mem_nil, or_false] at hp
  rcases hp with rfl | rfl
  · exact o22
  · exact o121) (by intro p hp; cases hp)
theorem w64_pur : ∀ c, opens Ap c = true → PurEnv e64 c := mkEnv_pur _ _ (by intro p hp; cases hp)
theorem u64_22 : e64 (2 * 22) = pureFn true (FA fun a : TVec × TVec => p_laws_eqVector a.1 a.2) := by
  unfold e64
  exact mkEnv_at (by rfl)
theorem u64_121 : e64 (2 * 121) = pureFn true (FA fun a : TStamp × TStamp => p_laws_eqStamp a.1 a.2) := by
  unfold e64
  exact mkEnv_at (by rfl)
theorem o64 : PureOK Try.prog 64 true (FA fun a : TOp × TOp => p_laws_eqOp a.1 a.2) := pure_tells e64_ok w64_pur (md := Md) (by kernel_rfl) (A := c_laws_eqOp 22 121) (by kernel_rfl) (by
  rintro ⟨x, y⟩ b hb
  exact d_laws_eqOp u64_22 u64_121 x y hb)
noncomputable def e19 : Env := mkEnv [(64, true, FA fun a : TOp × TOp => p_laws_eqOp a.1 a.2)] []
theorem e19_ok : EnvOK Try.prog e19 := mkEnv_ok (by
  intro p hp
  simp only [List.mem_cons, List.not_mem_nil, or_false] at hp
  subst hp
  exact o64) (by intro p hp; cases hp)
theorem w19_pur : ∀ c, opens Ap c = true → PurEnv e19 c := mkEnv_pur _ _ (by intro p hp; cases hp)
theorem u19_64 : e19 (2 * 64) = pureFn true (FA fun a : TOp × TOp => p_laws_eqOp a.1 a.2) := by
  unfold e19
  exact mkEnv_at (by rfl)
theorem o19 : PureOK Try.prog 19 true (FA fun a : List TOp × List TOp => p_laws_eqOpS a.1 a.2) := pure_tells e19_ok w19_pur (md := Md) (by kernel_rfl) (A := c_laws_eqOpS 64) (by kernel_rfl) (by
  rintro ⟨x, y⟩ b hb
  exact d_laws_eqOpS u19_64 x y hb)
noncomputable def e29 : Env := mkEnv [] []
theorem e29_ok : EnvOK Try.prog e29 := mkEnv_ok (by intro p hp; cases hp) (by intro p hp; cases hp)
theorem w29_pur : ∀ c, opens Ap c = true → PurEnv e29 c := mkEnv_pur _ _ (by intro p hp; cases hp)
theorem y29 : FunOK Try.prog 29 (runIn Try.prog e29 (c_laws_markIntS)) := runIn_ok e29_ok w29_pur (md := Md) (by kernel_rfl) (by kernel_rfl)
noncomputable def e66 : Env := mkEnv [] []
theorem e66_ok : EnvOK Try.prog e66 := mkEnv_ok (by intro p hp; cases hp) (by intro p hp; cases hp)
theorem w66_pur : ∀ c, opens Ap c = true → PurEnv e66 c := mkEnv_pur _ _ (by intro p hp; cases hp)
theorem o66 : PureOK Try.prog 66 true (FA fun a : Int => p_laws_markText a) := pure_tells e66_ok w66_pur (md := Md) (by kernel_rfl) (A := c_laws_markText) (by kernel_rfl) (by
  rintro x b hb
  exact d_laws_markText x hb)
noncomputable def e23 : Env := mkEnv [(66, true, FA fun a : Int => p_laws_markText a)] [(29, (runIn Try.prog e29 (c_laws_markIntS)))]
theorem e23_ok : EnvOK Try.prog e23 := mkEnv_ok (by
  intro p hp
  simp only [List.mem_cons, List.not_mem_nil, or_false] at hp
  subst hp
  exact o66) (by
  intro p hp
  simp only [List.mem_cons, List.not_mem_nil, or_false] at hp
  subst hp
  exact y29)
theorem w23_pur : ∀ c, opens Ap c = true → PurEnv e23 c := mkEnv_pur _ _ (by
  intro p hp
  simp only [List.mem_cons, List.not_mem_nil, or_false] at hp
  subst hp
  intro h; exact absurd h (by rw [show Ap 29 = false from rfl]; exact Bool.false_ne_true))
theorem u23_66 : e23 (2 * 66) = pureFn true (FA fun a : Int => p_laws_markText a) := by
  unfold e23
  exact mkEnv_at (by rfl)
theorem x23_29 : k_laws_markIntS (e23 (2 * 29 + 1)) := by
  unfold e23
  rw [mkEnv_own (g := (runIn Try.prog e29 (c_laws_markIntS))) (by rfl)]
  exact ko_laws_markIntS
theorem y23 : FunOK Try.prog 23 (runIn Try.prog e23 (c_laws_markOpS 29 66)) := runIn_ok e23_ok w23_pur (md := Md) (by kernel_rfl) (by kernel_rfl)
noncomputable def e30 : Env := mkEnv [] []
theorem e30_ok : EnvOK Try.prog e30 := mkEnv_ok (by intro p hp; cases hp) (by intro p hp; cases hp)
theorem w30_pur : ∀ c, opens Ap c = true → PurEnv e30 c := mkEnv_pur _ _ (by intro p hp; cases hp)
theorem o30 : PureOK Try.prog 30 true (FA fun a : List Int × Int => p_laws_heldIntS a.1 a.2) := pure_tells e30_ok w30_pur (md := Md) (by kernel_rfl) (A := c_laws_heldIntS) (by kernel_rfl) (by
  rintro ⟨x, y⟩ b hb
  exact d_laws_heldIntS x y hb)
noncomputable def e37 : Env := mkEnv [(30, true, FA fun a : List Int × Int => p_laws_heldIntS a.1 a.2), (66, true, FA fun a : Int => p_laws_markText a)] []
theorem e37_ok : EnvOK Try.prog e37 := mkEnv_ok (by
  intro p hp
  simp only [List.mem_cons, List.not_mem_nil, or_false] at hp
  rcases hp with rfl | rfl
  · exact o30
  · exact o66) (by intro p hp; cases hp)
theorem w37_pur : ∀ c, opens Ap c = true → PurEnv e37 c := mkEnv_pur _ _ (by intro p hp; cases hp)
theorem u37_30 : e37 (2 * 30) = pureFn true (FA fun a : List Int × Int => p_laws_heldIntS a.1 a.2) := by
  unfold e37
  exact mkEnv_at (by rfl)
theorem u37_66 : e37 (2 * 66) = pureFn true (FA fun a : Int => p_laws_markText a) := by
  unfold e37
  exact mkEnv_at (by rfl)
theorem o37 : PureOK Try.prog 37 true (FA fun a : List TOp × Int => p_laws_heldOpS a.1 a.2) := pure_tells e37_ok w37_pur (md := Md) (by kernel_rfl) (A := c_laws_heldOpS 30 66) (by kernel_rfl) (by
  rintro ⟨x, y⟩ b hb
  exact d_laws_heldOpS u37_30 u37_66 x y hb)
noncomputable def e12 : Env := mkEnv [(15, true, FA fun a : List TOp × Int => p_laws_szOpS a.1 a.2), (17, false, FA fun a : List TOp => p_laws_toOpS a), (49, false, FA fun a : List TOp × List TOp => p_spec_BranchMerge a.1 a.2), (19, true, FA fun a : List TOp × List TOp => p_laws_eqOpS a.1 a.2), (37, true, FA fun a : List TOp × Int => p_laws_heldOpS a.1 a.2)] [(17, (ownFn Try.prog e17 (c_laws_toOpS 62))), (50, (ownFn Try.prog e50 (c_impl_BranchMerge 94))), (23, (runIn Try.prog e23 (c_laws_markOpS 29 66)))]
theorem e12_ok : EnvOK Try.prog e12 := mkEnv_ok (by
  intro p hp
  simp only [List.mem_cons, List.not_mem_nil, or_false] at hp
  rcases hp with rfl | rfl | rfl | rfl | rfl
  · exact o15
  · exact o17
  · exact o49
  · exact o19
  · exact o37) (by
  intro p hp
  simp only [List.mem_cons, List.not_mem_nil, or_false] at hp
  rcases hp with rfl | rfl | rfl
  · exact y17
  · exact y50
  · exact y23)
theorem w12_pur : ∀ c, opens ApL c = true → PurEnv e12 c := mkEnv_pur _ _ (by
  intro p hp
  simp only [List.mem_cons, List.not_mem_nil, or_false] at hp
  rcases hp with rfl | rfl | rfl
  · intro h; exact absurd h (by rw [show ApL 17 = false from rfl]; exact Bool.false_ne_true)
  · intro h; exact absurd h (by rw [show ApL 50 = false from rfl]; exact Bool.false_ne_true)
  · intro h; exact absurd h (by rw [show ApL 23 = false from rfl]; exact Bool.false_ne_true))
theorem u12_15 : e12 (2 * 15) = pureFn true (FA fun a : List TOp × Int => p_laws_szOpS a.1 a.2) := by
  unfold e12
  exact mkEnv_at (by rfl)
theorem u12_17 : e12 (2 * 17) = pureFn false (FA fun a : List TOp => p_laws_toOpS a) := by
  unfold e12
  exact mkEnv_at (by rfl)
theorem u12_49 : e12 (2 * 49) = pureFn false (FA fun a : List TOp × List TOp => p_spec_BranchMerge a.1 a.2) := by
  unfold e12
  exact mkEnv_at (by rfl)
theorem u12_19 : e12 (2 * 19) = pureFn true (FA fun a : List TOp × List TOp => p_laws_eqOpS a.1 a.2) := by
  unfold e12
  exact mkEnv_at (by rfl)
theorem u12_37 : e12 (2 * 37) = pureFn true (FA fun a : List TOp × Int => p_laws_heldOpS a.1 a.2) := by
  unfold e12
  exact mkEnv_at (by rfl)
theorem x12_17 : k_laws_toOpS (e12 (2 * 17 + 1)) := by
  unfold e12
  rw [mkEnv_own (g := (ownFn Try.prog e17 (c_laws_toOpS 62))) (by rfl)]
  exact ko_laws_toOpS x17_62
theorem x12_50 : k_impl_BranchMerge (e12 (2 * 50 + 1)) := by
  unfold e12
  rw [mkEnv_own (g := (ownFn Try.prog e50 (c_impl_BranchMerge 94))) (by rfl)]
  exact ko_impl_BranchMerge x50_94
theorem x12_23 : k_laws_markOpS (e12 (2 * 23 + 1)) := by
  unfold e12
  rw [mkEnv_own (g := (runIn Try.prog e23 (c_laws_markOpS 29 66))) (by rfl)]
  exact ko_laws_markOpS u23_66 x23_29
theorem law : LawOK Try.prog 12 [.sl 128 (.st [.int .i64, .int .i64, .int .i64, .st [.sl 8 (.int .i64)], .int .i64, .int .i64, .int .i64, .int .i64, .st [.int .i64, .int .i64], .str, .str]), .sl 128 (.st [.int .i64, .int .i64, .int .i64, .st [.sl 8 (.int .i64)], .int .i64, .int .i64, .int .i64, .int .i64, .st [.int .i64, .int .i64], .str, .str])] := law_of_run e12_ok w12_pur (md := MdL) (A := c_laws_FnExactBranchMerge 15 17 49 50 19 23 37) (by kernel_rfl) (by
  intro xs hx
  cases hx with
  | cons h0 hx =>
  cases hx with
  | cons h1 hx =>
  cases hx
  obtain ⟨a0, rfl, k0⟩ := fit_sl (α := TOp) rfl (fun x hx => fit_TOp hx) h0
  obtain ⟨a1, rfl, k1⟩ := fit_sl (α := TOp) rfl (fun x hx => fit_TOp hx) h1
  exact d_laws_FnExactBranchMerge u12_15 u12_17 u12_49 u12_19 u12_37 x12_17 x12_50 x12_23 a0 a1 (plain_BranchMerge a0 a1 k0 k1))
theorem own : ownKnob Try.prog.godebug = none := by kernel_rfl
theorem laidOut : laidOutB Try.prog = true := by kernel_rfl
set_option maxRecDepth 100000 in
theorem lifted (os : Os) (started : os.Started) (H : Type) (enc : TypeId × Value → H) :
    ReturnsInHanded {} Try.checked os 12 .any (Rows.fnExactBranchMergeSpec.pre6 enc Try.prog Try.f12 Rows.fnExactBranchMergeRow.domain false) (Rows.fnExactBranchMergeSpec.post enc Try.prog Try.f12 false true false false) := by
  refine returnsInHanded_of_change_sized (C := Try.checked) own started (by kernel_rfl) Try.func12
    (ChangeSpec.witness6 (enc := enc) (C := Try.checked) false ⟨#[], #[.slice none 0 0, .slice none 0 0], []⟩ 8 (by kernel_rfl) (by kernel_rfl) (by kernel_rfl) (by kernel_rfl)) ?_
  intro W base args ds gs before hval hW hcnd hsz _
  refine law_contract (n := 8) (tb := 4) (shs := [.sl 128 (.st [.int .i64, .int .i64, .int .i64, .st [.sl 8 (.int .i64)], .int .i64, .int .i64, .int .i64, .int .i64, .st [.int .i64, .int .i64], .str, .str]), .sl 128 (.st [.int .i64, .int .i64, .int .i64, .st [.sl 8 (.int .i64)], .int .i64, .int .i64, .int .i64, .int .i64, .st [.int .i64, .int .i64], .str, .str])]) laidOut rfl ?_ (by kernel_rfl) Try.underlying4 (by kernel_rfl) (by kernel_rfl) law W base args ds gs before hval hW hsz
  intro ds hds
  have h1 : ds.length = 2 := hds
  match ds, h1 with
  | [d0, d1], _ => rfl
theorem over : Rows.fnExactBranchMergeRow.holds Try.pinned (OpenSpec.ofChange Rows.fnExactBranchMergeSpec) :=
  OpenClaim.holds_of_wide 12 Try.f12 rfl rfl rfl rfl rfl rfl rfl ⟨rfl, rfl, rfl, rfl, rfl⟩ rfl rfl rfl rfl rfl (by kernel_rfl) Try.func12 (by kernel_rfl)
    (of_decide_eq_true (by kernel_rfl)) (by unfold Func.isWrapper; first | (rw [if_pos (by decide +kernel)]; kernel_rfl) | (rw [if_neg (by decide +kernel)]; exact ⟨rfl, rfl⟩))
    (fun os started H enc _ => lifted os started H enc)
theorem proved : Rows.FnExactBranchMergeSaid := over
#print axioms proved
end Go.Proofs.Ytiabacjkejkbgaa.RFnExactBranchMerge
namespace Go.Proofs.Ytiabacjkejkbgaa
/-- The row, under a short name, for the claim. -/
theorem fnExactBranchMerge_holds : Rows.FnExactBranchMergeSaid := RFnExactBranchMerge.proved
end Go.Proofs.Ytiabacjkejkbgaa
