/- The law FnExactSetRemove: its functions' contracts, its run, its row. No condition. -/
import Derived.Test.YtjnkmdphjopboaaRows
import Derived.Test.YtjnkmdphjopboaaLabPSetRemove
import Derived.WalkKit
import Derived.ProofKit
set_option linter.unusedVariables false
namespace Go.Proofs.Ytjnkmdphjopboaa.RFnExactSetRemove
open Go.AM
open Pic (enc dec dec_enc dec_sub)
def Md : Modes := fun f => if f == 16 then 4 else if f == 17 then 1 else if f == 21 then 4 else if f == 22 then 1 else if f == 23 then 1 else if f == 25 then 2 else if f == 27 then 4 else if f == 28 then 1 else if f == 29 then 1 else if f == 32 then 2 else if f == 33 then 2 else if f == 35 then 4 else if f == 36 then 1 else if f == 37 then 4 else if f == 38 then 1 else if f == 39 then 2 else if f == 42 then 4 else if f == 43 then 1 else if f == 44 then 1 else if f == 46 then 2 else if f == 48 then 4 else if f == 49 then 1 else if f == 50 then 1 else if f == 52 then 2 else if f == 54 then 4 else if f == 55 then 1 else if f == 56 then 4 else if f == 57 then 1 else if f == 58 then 1 else if f == 59 then 4 else if f == 60 then 1 else if f == 61 then 4 else if f == 62 then 1 else if f == 65 then 4 else if f == 66 then 1 else if f == 67 then 1 else if f == 69 then 2 else if f == 74 then 4 else if f == 77 then 1 else if f == 80 then 2 else if f == 82 then 2 else if f == 84 then 2 else if f == 91 then 1 else if f == 93 then 1 else if f == 94 then 1 else if f == 95 then 2 else if f == 96 then 2 else if f == 98 then 1 else if f == 99 then 2 else if f == 100 then 2 else if f == 104 then 1 else if f == 106 then 1 else if f == 108 then 2 else if f == 119 then 2 else if f == 122 then 4 else if f == 123 then 4 else 0
def Ap : Nat → Bool := fun f => Md f == 1
def MdL : Modes := fun f => if Md f == 1 then 3 else Md f
def ApL : Nat → Bool := fun f => MdL f == 1
noncomputable def e73 : Env := mkEnv [] []
theorem e73_ok : EnvOK Try.prog e73 := mkEnv_ok (by intro p hp; cases hp) (by intro p hp; cases hp)
theorem w73_pur : ∀ c, opens Ap c = true → PurEnv e73 c := mkEnv_pur _ _ (by intro p hp; cases hp)
theorem o73 : PureOK Try.prog 73 true (FA fun a : List Int × Int => p_laws_szIntS a.1 a.2) := pure_tells e73_ok w73_pur (md := Md) (by kernel_rfl) (A := c_laws_szIntS) (by kernel_rfl) (by
  rintro ⟨x, y⟩ b hb
  exact d_laws_szIntS x y hb)
noncomputable def e20 : Env := mkEnv [(73, true, FA fun a : List Int × Int => p_laws_szIntS a.1 a.2)] []
theorem e20_ok : EnvOK Try.prog e20 := mkEnv_ok (by
  intro p hp
  simp only [List.mem_cons, List.not_mem_nil, or_false] at hp
  subst hp
  exact o73) (by intro p hp; cases hp)
theorem w20_pur : ∀ c, opens Ap c = true → PurEnv e20 c := mkEnv_pur _ _ (by intro p hp; cases hp)
theorem u20_73 : e20 (2 * 73) = pureFn true (FA fun a : List Int × Int => p_laws_szIntS a.1 a.2) := by
  unfold e20
  exact mkEnv_at (by rfl)
theorem o20 : PureOK Try.prog 20 true (FA fun a : TVec × Int => p_laws_szVector a.1 a.2) := pure_tells e20_ok w20_pur (md := Md) (by kernel_rfl) (A := c_laws_szVector 73) (by kernel_rfl) (by
  rintro ⟨x, y⟩ b hb
  exact d_laws_szVector u20_73 x y hb)
noncomputable def e121 : Env := mkEnv [] []
theorem e121_ok : EnvOK Try.prog e121 := mkEnv_ok (by intro p hp; cases hp) (by intro p hp; cases hp)
theorem w121_pur : ∀ c, opens Ap c = true → PurEnv e121 c := mkEnv_pur _ _ (by intro p hp; cases hp)
theorem o121 : PureOK Try.prog 121 true (FA fun a : TEntry × Int => p_laws_szEntry a.1 a.2) := pure_tells e121_ok w121_pur (md := Md) (by kernel_rfl) (A := c_laws_szEntry) (by kernel_rfl) (by
  rintro ⟨x, y⟩ b hb
  exact d_laws_szEntry x y hb)
noncomputable def e101 : Env := mkEnv [(121, true, FA fun a : TEntry × Int => p_laws_szEntry a.1 a.2)] []
theorem e101_ok : EnvOK Try.prog e101 := mkEnv_ok (by
  intro p hp
  simp only [List.mem_cons, List.not_mem_nil, or_false] at hp
  subst hp
  exact o121) (by intro p hp; cases hp)
theorem w101_pur : ∀ c, opens Ap c = true → PurEnv e101 c := mkEnv_pur _ _ (by intro p hp; cases hp)
theorem u101_121 : e101 (2 * 121) = pureFn true (FA fun a : TEntry × Int => p_laws_szEntry a.1 a.2) := by
  unfold e101
  exact mkEnv_at (by rfl)
theorem o101 : PureOK Try.prog 101 true (FA fun a : List TEntry × Int => p_laws_szEntryS a.1 a.2) := pure_tells e101_ok w101_pur (md := Md) (by kernel_rfl) (A := c_laws_szEntryS 121) (by kernel_rfl) (by
  rintro ⟨x, y⟩ b hb
  exact d_laws_szEntryS u101_121 x y hb)
noncomputable def e64 : Env := mkEnv [(20, true, FA fun a : TVec × Int => p_laws_szVector a.1 a.2), (101, true, FA fun a : List TEntry × Int => p_laws_szEntryS a.1 a.2)] []
theorem e64_ok : EnvOK Try.prog e64 := mkEnv_ok (by
  intro p hp
  simp only [List.mem_cons, List.not_mem_nil, or_false] at hp
  rcases hp with rfl | rfl
  · exact o20
  · exact o101) (by intro p hp; cases hp)
theorem w64_pur : ∀ c, opens Ap c = true → PurEnv e64 c := mkEnv_pur _ _ (by intro p hp; cases hp)
theorem u64_20 : e64 (2 * 20) = pureFn true (FA fun a : TVec × Int => p_laws_szVector a.1 a.2) := by
  unfold e64
  exact mkEnv_at (by rfl)
theorem u64_101 : e64 (2 * 101) = pureFn true (FA fun a : List TEntry × Int => p_laws_szEntryS a.1 a.2) := by
  unfold e64
  exact mkEnv_at (by rfl)
theorem o64 : PureOK Try.prog 64 true (FA fun a : TMulti × Int => p_laws_szSet a.1 a.2) := pure_tells e64_ok w64_pur (md := Md) (by kernel_rfl) (A := c_laws_szSet 20 101) (by kernel_rfl) (by
  rintro ⟨x, y⟩ b hb
  exact d_laws_szSet u64_20 u64_101 x y hb)
noncomputable def e28 : Env := mkEnv [] []
theorem e28_ok : EnvOK Try.prog e28 := mkEnv_ok (by intro p hp; cases hp) (by intro p hp; cases hp)
theorem w28_pur : ∀ c, opens Ap c = true → PurEnv e28 c := mkEnv_pur _ _ (by intro p hp; cases hp)
theorem y28 : FunOK Try.prog 28 (ownFn Try.prog e28 (c_laws_toIntS)) := ownFn_ok e28_ok w28_pur (md := Md) (by kernel_rfl) (by kernel_rfl)
noncomputable def e22 : Env := mkEnv [] [(28, (ownFn Try.prog e28 (c_laws_toIntS)))]
theorem e22_ok : EnvOK Try.prog e22 := mkEnv_ok (by intro p hp; cases hp) (by
  intro p hp
  simp only [List.mem_cons, List.not_mem_nil, or_false] at hp
  subst hp
  exact y28)
theorem w22_pur : ∀ c, opens Ap c = true → PurEnv e22 c := mkEnv_pur _ _ (by
  intro p hp
  simp only [List.mem_cons, List.not_mem_nil, or_false] at hp
  subst hp
  intro _; exact ownFn_app)
theorem x22_28 : k_laws_toIntS (e22 (2 * 28 + 1)) := by
  unfold e22
  rw [mkEnv_own (g := (ownFn Try.prog e28 (c_laws_toIntS))) (by rfl)]
  exact ko_laws_toIntS
theorem y22 : FunOK Try.prog 22 (ownFn Try.prog e22 (c_laws_toVector 28)) := ownFn_ok e22_ok w22_pur (md := Md) (by kernel_rfl) (by kernel_rfl)
noncomputable def e129 : Env := mkEnv [] []
theorem e129_ok : EnvOK Try.prog e129 := mkEnv_ok (by intro p hp; cases hp) (by intro p hp; cases hp)
theorem w129_pur : ∀ c, opens Ap c = true → PurEnv e129 c := mkEnv_pur _ _ (by intro p hp; cases hp)
theorem o129 : PureOK Try.prog 129 true (FA fun a : TStamp => p_laws_toStamp a) := pure_tells e129_ok w129_pur (md := Md) (by kernel_rfl) (A := c_laws_toStamp) (by kernel_rfl) (by
  rintro x b hb
  exact d_laws_toStamp x hb)
noncomputable def e124 : Env := mkEnv [(129, true, FA fun a : TStamp => p_laws_toStamp a)] []
theorem e124_ok : EnvOK Try.prog e124 := mkEnv_ok (by
  intro p hp
  simp only [List.mem_cons, List.not_mem_nil, or_false] at hp
  subst hp
  exact o129) (by intro p hp; cases hp)
theorem w124_pur : ∀ c, opens Ap c = true → PurEnv e124 c := mkEnv_pur _ _ (by intro p hp; cases hp)
theorem u124_129 : e124 (2 * 129) = pureFn true (FA fun a : TStamp => p_laws_toStamp a) := by
  unfold e124
  exact mkEnv_at (by rfl)
theorem o124 : PureOK Try.prog 124 true (FA fun a : TEntry => p_laws_toEntry a) := pure_tells e124_ok w124_pur (md := Md) (by kernel_rfl) (A := c_laws_toEntry 129) (by kernel_rfl) (by
  rintro x b hb
  exact d_laws_toEntry u124_129 x hb)
noncomputable def e104 : Env := mkEnv [(124, true, FA fun a : TEntry => p_laws_toEntry a)] []
theorem e104_ok : EnvOK Try.prog e104 := mkEnv_ok (by
  intro p hp
  simp only [List.mem_cons, List.not_mem_nil, or_false] at hp
  subst hp
  exact o124) (by intro p hp; cases hp)
theorem w104_pur : ∀ c, opens Ap c = true → PurEnv e104 c := mkEnv_pur _ _ (by intro p hp; cases hp)
theorem u104_124 : e104 (2 * 124) = pureFn true (FA fun a : TEntry => p_laws_toEntry a) := by
  unfold e104
  exact mkEnv_at (by rfl)
theorem y104 : FunOK Try.prog 104 (ownFn Try.prog e104 (c_laws_toEntryS 124)) := ownFn_ok e104_ok w104_pur (md := Md) (by kernel_rfl) (by kernel_rfl)
noncomputable def e66 : Env := mkEnv [] [(22, (ownFn Try.prog e22 (c_laws_toVector 28))), (104, (ownFn Try.prog e104 (c_laws_toEntryS 124)))]
theorem e66_ok : EnvOK Try.prog e66 := mkEnv_ok (by intro p hp; cases hp) (by
  intro p hp
  simp only [List.mem_cons, List.not_mem_nil, or_false] at hp
  rcases hp with rfl | rfl
  · exact y22
  · exact y104)
theorem w66_pur : ∀ c, opens Ap c = true → PurEnv e66 c := mkEnv_pur _ _ (by
  intro p hp
  simp only [List.mem_cons, List.not_mem_nil, or_false] at hp
  rcases hp with rfl | rfl
  · intro _; exact ownFn_app
  · intro _; exact ownFn_app)
theorem x66_22 : k_laws_toVector (e66 (2 * 22 + 1)) := by
  unfold e66
  rw [mkEnv_own (g := (ownFn Try.prog e22 (c_laws_toVector 28))) (by rfl)]
  exact ko_laws_toVector x22_28
theorem x66_104 : k_laws_toEntryS (e66 (2 * 104 + 1)) := by
  unfold e66
  rw [mkEnv_own (g := (ownFn Try.prog e104 (c_laws_toEntryS 124))) (by rfl)]
  exact ko_laws_toEntryS u104_124
theorem o66 : PureOK Try.prog 66 true (FA fun a : TMulti => p_laws_toSet a) := pure_tells e66_ok w66_pur (md := Md) (by kernel_rfl) (A := c_laws_toSet 22 104) (by kernel_rfl) (by
  rintro x b hb
  exact d_laws_toSet x66_22 x66_104 x hb)
theorem y66 : FunOK Try.prog 66 (ownFn Try.prog e66 (c_laws_toSet 22 104)) := ownFn_ok e66_ok w66_pur (md := Md) (by kernel_rfl) (by kernel_rfl)
noncomputable def e74 : Env := mkEnv [] []
theorem e74_ok : EnvOK Try.prog e74 := mkEnv_ok (by intro p hp; cases hp) (by intro p hp; cases hp)
theorem w74_pur : ∀ c, opens Ap c = true → PurEnv e74 c := mkEnv_pur _ _ (by intro p hp; cases hp)
theorem o74 : PureOK Try.prog 74 true (FA fun a : TVec => p_spec_VecOK a) := pure_tells e74_ok w74_pur (md := Md) (by kernel_rfl) (A := c_spec_VecOK) (by kernel_rfl) (by
  rintro x b hb
  exact d_spec_VecOK x hb)
noncomputable def e122 : Env := mkEnv [] []
theorem e122_ok : EnvOK Try.prog e122 := mkEnv_ok (by intro p hp; cases hp) (by intro p hp; cases hp)
theorem w122_pur : ∀ c, opens Ap c = true → PurEnv e122 c := mkEnv_pur _ _ (by intro p hp; cases hp)
theorem o122 : PureOK Try.prog 122 true (FA fun a : TStamp => p_spec_StampOK a) := pure_tells e122_ok w122_pur (md := Md) (by kernel_rfl) (A := c_spec_StampOK) (by kernel_rfl) (by
  rintro x b hb
  exact d_spec_StampOK x hb)
noncomputable def e123 : Env := mkEnv [] []
theorem e123_ok : EnvOK Try.prog e123 := mkEnv_ok (by intro p hp; cases hp) (by intro p hp; cases hp)
theorem w123_pur : ∀ c, opens Ap c = true → PurEnv e123 c := mkEnv_pur _ _ (by intro p hp; cases hp)
theorem o123 : PureOK Try.prog 123 true (FA fun a : TStamp × TStamp => p_spec_StampLess a.1 a.2) := pure_tells e123_ok w123_pur (md := Md) (by kernel_rfl) (A := c_spec_StampLess) (by kernel_rfl) (by
  rintro ⟨x, y⟩ b hb
  exact d_spec_StampLess x y hb)
noncomputable def e102 : Env := mkEnv [(74, true, FA fun a : TVec => p_spec_VecOK a), (122, true, FA fun a : TStamp => p_spec_StampOK a), (123, true, FA fun a : TStamp × TStamp => p_spec_StampLess a.1 a.2)] []
theorem e102_ok : EnvOK Try.prog e102 := mkEnv_ok (by
  intro p hp
  simp only [List.mem_cons, List.not_mem_nil, or_false] at hp
  rcases hp with rfl | rfl | rfl
  · exact o74
  · exact o122
  · exact o123) (by intro p hp; cases hp)
theorem w102_pur : ∀ c, opens Ap c = true → PurEnv e102 c := mkEnv_pur _ _ (by intro p hp; cases hp)
theorem u102_74 : e102 (2 * 74) = pureFn true (FA fun a : TVec => p_spec_VecOK a) := by
  unfold e102
  exact mkEnv_at (by rfl)
theorem u102_122 : e102 (2 * 122) = pureFn true (FA fun a : TStamp => p_spec_StampOK a) := by
  unfold e102
  exact mkEnv_at (by rfl)
theorem u102_123 : e102 (2 * 123) = pureFn true (FA fun a : TStamp × TStamp => p_spec_StampLess a.1 a.2) := by
  unfold e102
  exact mkEnv_at (by rfl)
theorem o102 : PureOK Try.prog 102 true (FA fun a : TVec × List TEntry => p_spec_l03EntriesOK a.1 a.2) := pure_tells e102_ok w102_pur (md := Md) (by kernel_rfl) (A := c_spec_l03EntriesOK 74 122 123) (by kernel_rfl) (by
  rintro ⟨x, y⟩ b hb
  exact d_spec_l03EntriesOK u102_74 u102_122 u102_123 x y hb)
noncomputable def e91 : Env := mkEnv [] []
theorem e91_ok : EnvOK Try.prog e91 := mkEnv_ok (by intro p hp; cases hp) (by intro p hp; cases hp)
theorem w91_pur : ∀ c, opens Ap c = true → PurEnv e91 c := mkEnv_pur _ _ (by intro p hp; cases hp)
theorem y91 : FunOK Try.prog 91 (ownFn Try.prog e91 (c_spec_l02Copy)) := ownFn_ok e91_ok w91_pur (md := Md) (by kernel_rfl) (by kernel_rfl)
noncomputable def e103 : Env := mkEnv [] []
theorem e103_ok : EnvOK Try.prog e103 := mkEnv_ok (by intro p hp; cases hp) (by intro p hp; cases hp)
theorem w103_pur : ∀ c, opens Ap c = true → PurEnv e103 c := mkEnv_pur _ _ (by intro p hp; cases hp)
theorem o103 : PureOK Try.prog 103 true (FA fun a : List TEntry × ByteArray => p_spec_l03Without a.1 a.2) := pure_tells e103_ok w103_pur (md := Md) (by kernel_rfl) (A := c_spec_l03Without) (by kernel_rfl) (by
  rintro ⟨x, y⟩ b hb
  exact d_spec_l03Without x y hb)
noncomputable def e65 : Env := mkEnv [(102, true, FA fun a : TVec × List TEntry => p_spec_l03EntriesOK a.1 a.2), (103, true, FA fun a : List TEntry × ByteArray => p_spec_l03Without a.1 a.2)] [(91, (ownFn Try.prog e91 (c_spec_l02Copy)))]
theorem e65_ok : EnvOK Try.prog e65 := mkEnv_ok (by
  intro p hp
  simp only [List.mem_cons, List.not_mem_nil, or_false] at hp
  rcases hp with rfl | rfl
  · exact o102
  · exact o103) (by
  intro p hp
  simp only [List.mem_cons, List.not_mem_nil, or_false] at hp
  subst hp
  exact y91)
theorem w65_pur : ∀ c, opens Ap c = true → PurEnv e65 c := mkEnv_pur _ _ (by
  intro p hp
  simp only [List.mem_cons, List.not_mem_nil, or_false] at hp
  subst hp
  intro _; exact ownFn_app)
theorem u65_102 : e65 (2 * 102) = pureFn true (FA fun a : TVec × List TEntry => p_spec_l03EntriesOK a.1 a.2) := by
  unfold e65
  exact mkEnv_at (by rfl)
theorem u65_103 : e65 (2 * 103) = pureFn true (FA fun a : List TEntry × ByteArray => p_spec_l03Without a.1 a.2) := by
  unfold e65
  exact mkEnv_at (by rfl)
theorem x65_91 : k_spec_l02Copy (e65 (2 * 91 + 1)) := by
  unfold e65
  rw [mkEnv_own (g := (ownFn Try.prog e91 (c_spec_l02Copy))) (by rfl)]
  exact ko_spec_l02Copy
theorem o65 : PureOK Try.prog 65 false (FA fun a : TMulti × ByteArray => p_spec_SetRemove a.1 a.2) := pure_tells e65_ok w65_pur (md := Md) (by kernel_rfl) (A := c_spec_SetRemove 102 91 103) (by kernel_rfl) (by
  rintro ⟨x, y⟩ b hb
  exact d_spec_SetRemove u65_102 u65_103 x65_91 x y hb)
noncomputable def e76 : Env := mkEnv [] []
theorem e76_ok : EnvOK Try.prog e76 := mkEnv_ok (by intro p hp; cases hp) (by intro p hp; cases hp)
theorem w76_pur : ∀ c, opens Ap c = true → PurEnv e76 c := mkEnv_pur _ _ (by intro p hp; cases hp)
theorem o76 : PureOK Try.prog 76 true (FA fun a : TVec => p_impl_VecOK a) := pure_tells e76_ok w76_pur (md := Md) (by kernel_rfl) (A := c_impl_VecOK) (by kernel_rfl) (by
  rintro x b hb
  exact d_impl_VecOK x hb)
noncomputable def e92 : Env := mkEnv [] []
theorem e92_ok : EnvOK Try.prog e92 := mkEnv_ok (by intro p hp; cases hp) (by intro p hp; cases hp)
theorem w92_pur : ∀ c, opens Ap c = true → PurEnv e92 c := mkEnv_pur _ _ (by intro p hp; cases hp)
theorem o92 : PureOK Try.prog 92 true (FA fun a : Int => p_impl_isActor a) := pure_tells e92_ok w92_pur (md := Md) (by kernel_rfl) (A := c_impl_isActor) (by kernel_rfl) (by
  rintro x b hb
  exact d_impl_isActor x hb)
noncomputable def e125 : Env := mkEnv [(92, true, FA fun a : Int => p_impl_isActor a)] []
theorem e125_ok : EnvOK Try.prog e125 := mkEnv_ok (by
  intro p hp
  simp only [List.mem_cons, List.not_mem_nil, or_false] at hp
  subst hp
  exact o92) (by intro p hp; cases hp)
theorem w125_pur : ∀ c, opens Ap c = true → PurEnv e125 c := mkEnv_pur _ _ (by intro p hp; cases hp)
theorem u125_92 : e125 (2 * 92) = pureFn true (FA fun a : Int => p_impl_isActor a) := by
  unfold e125
  exact mkEnv_at (by rfl)
theorem o125 : PureOK Try.prog 125 true (FA fun a : TStamp => p_impl_StampOK a) := pure_tells e125_ok w125_pur (md := Md) (by kernel_rfl) (A := c_impl_StampOK 92) (by kernel_rfl) (by
  rintro x b hb
  exact d_impl_StampOK u125_92 x hb)
noncomputable def e126 : Env := mkEnv [] []
theorem e126_ok : EnvOK Try.prog e126 := mkEnv_ok (by intro p hp; cases hp) (by intro p hp; cases hp)
theorem w126_pur : ∀ c, opens Ap c = true → PurEnv e126 c := mkEnv_pur _ _ (by intro p hp; cases hp)
theorem o126 : PureOK Try.prog 126 true (FA fun a : TStamp × TStamp => p_impl_StampLess a.1 a.2) := pure_tells e126_ok w126_pur (md := Md) (by kernel_rfl) (A := c_impl_StampLess) (by kernel_rfl) (by
  rintro ⟨x, y⟩ b hb
  exact d_impl_StampLess x y hb)
noncomputable def e105 : Env := mkEnv [(76, true, FA fun a : TVec => p_impl_VecOK a), (125, true, FA fun a : TStamp => p_impl_StampOK a), (126, true, FA fun a : TStamp × TStamp => p_impl_StampLess a.1 a.2)] []
theorem e105_ok : EnvOK Try.prog e105 := mkEnv_ok (by
  intro p hp
  simp only [List.mem_cons, List.not_mem_nil, or_false] at hp
  rcases hp with rfl | rfl | rfl
  · exact o76
  · exact o125
  · exact o126) (by intro p hp; cases hp)
theorem w105_pur : ∀ c, opens Ap c = true → PurEnv e105 c := mkEnv_pur _ _ (by intro p hp; cases hp)
theorem u105_76 : e105 (2 * 76) = pureFn true (FA fun a : TVec => p_impl_VecOK a) := by
  unfold e105
  exact mkEnv_at (by rfl)
theorem u105_125 : e105 (2 * 125) = pureFn true (FA fun a : TStamp => p_impl_StampOK a) := by
  unfold e105
  exact mkEnv_at (by rfl)
theorem u105_126 : e105 (2 * 126) = pureFn true (FA fun a : TStamp × TStamp => p_impl_StampLess a.1 a.2) := by
  unfold e105
  exact mkEnv_at (by rfl)
theorem o105 : PureOK Try.prog 105 true (FA fun a : TVec × List TEntry => p_impl_stateOK a.1 a.2) := pure_tells e105_ok w105_pur (md := Md) (by kernel_rfl) (A := c_impl_stateOK 76 125 126) (by kernel_rfl) (by
  rintro ⟨x, y⟩ b hb
  exact d_impl_stateOK u105_76 u105_125 u105_126 x y hb)
noncomputable def e93 : Env := mkEnv [] []
theorem e93_ok : EnvOK Try.prog e93 := mkEnv_ok (by intro p hp; cases hp) (by intro p hp; cases hp)
theorem w93_pur : ∀ c, opens Ap c = true → PurEnv e93 c := mkEnv_pur _ _ (by intro p hp; cases hp)
theorem y93 : FunOK Try.prog 93 (ownFn Try.prog e93 (c_impl_vecCopy)) := ownFn_ok e93_ok w93_pur (md := Md) (by kernel_rfl) (by kernel_rfl)
noncomputable def e106 : Env := mkEnv [] []
theorem e106_ok : EnvOK Try.prog e106 := mkEnv_ok (by intro p hp; cases hp) (by intro p hp; cases hp)
theorem w106_pur : ∀ c, opens Ap c = true → PurEnv e106 c := mkEnv_pur _ _ (by intro p hp; cases hp)
theorem y106 : FunOK Try.prog 106 (ownFn Try.prog e106 (c_impl_without)) := ownFn_ok e106_ok w106_pur (md := Md) (by kernel_rfl) (by kernel_rfl)
noncomputable def e67 : Env := mkEnv [(105, true, FA fun a : TVec × List TEntry => p_impl_stateOK a.1 a.2)] [(93, (ownFn Try.prog e93 (c_impl_vecCopy))), (106, (ownFn Try.prog e106 (c_impl_without)))]
theorem e67_ok : EnvOK Try.prog e67 := mkEnv_ok (by
  intro p hp
  simp only [List.mem_cons, List.not_mem_nil, or_false] at hp
  subst hp
  exact o105) (by
  intro p hp
  simp only [List.mem_cons, List.not_mem_nil, or_false] at hp
  rcases hp with rfl | rfl
  · exact y93
  · exact y106)
theorem w67_pur : ∀ c, opens Ap c = true → PurEnv e67 c := mkEnv_pur _ _ (by
  intro p hp
  simp only [List.mem_cons, List.not_mem_nil, or_false] at hp
  rcases hp with rfl | rfl
  · intro _; exact ownFn_app
  · intro _; exact ownFn_app)
theorem u67_105 : e67 (2 * 105) = pureFn true (FA fun a : TVec × List TEntry => p_impl_stateOK a.1 a.2) := by
  unfold e67
  exact mkEnv_at (by rfl)
theorem x67_93 : k_impl_vecCopy (e67 (2 * 93 + 1)) := by
  unfold e67
  rw [mkEnv_own (g := (ownFn Try.prog e93 (c_impl_vecCopy))) (by rfl)]
  exact ko_impl_vecCopy
theorem x67_106 : k_impl_without (e67 (2 * 106 + 1)) := by
  unfold e67
  rw [mkEnv_own (g := (ownFn Try.prog e106 (c_impl_without))) (by rfl)]
  exact ko_impl_without
theorem y67 : FunOK Try.prog 67 (ownFn Try.prog e67 (c_impl_SetRemove 105 93 106)) := ownFn_ok e67_ok w67_pur (md := Md) (by kernel_rfl) (by kernel_rfl)
noncomputable def e31 : Env := mkEnv [] []
theorem e31_ok : EnvOK Try.prog e31 := mkEnv_ok (by intro p hp; cases hp) (by intro p hp; cases hp)
theorem w31_pur : ∀ c, opens Ap c = true → PurEnv e31 c := mkEnv_pur _ _ (by intro p hp; cases hp)
theorem o31 : PureOK Try.prog 31 true (FA fun a : List Int × List Int => p_laws_eqIntS a.1 a.2) := pure_tells e31_ok w31_pur (md := Md) (by kernel_rfl) (A := c_laws_eqIntS) (by kernel_rfl) (by
  rintro ⟨x, y⟩ b hb
  exact d_laws_eqIntS x y hb)
noncomputable def e24 : Env := mkEnv [(31, true, FA fun a : List Int × List Int => p_laws_eqIntS a.1 a.2)] []
theorem e24_ok : EnvOK Try.prog e24 := mkEnv_ok (by
  intro p hp
  simp only [List.mem_cons, List.not_mem_nil, or_false] at hp
  subst hp
  exact o31) (by intro p hp; cases hp)
theorem w24_pur : ∀ c, opens Ap c = true → PurEnv e24 c := mkEnv_pur _ _ (by intro p hp; cases hp)
theorem u24_31 : e24 (2 * 31) = pureFn true (FA fun a : List Int × List Int => p_laws_eqIntS a.1 a.2) := by
  unfold e24
  exact mkEnv_at (by rfl)
theorem o24 : PureOK Try.prog 24 true (FA fun a : TVec × TVec => p_laws_eqVector a.1 a.2) := pure_tells e24_ok w24_pur (md := Md) (by kernel_rfl) (A := c_laws_eqVector 31) (by kernel_rfl) (by
  rintro ⟨x, y⟩ b hb
  exact d_laws_eqVector u24_31 x y hb)
noncomputable def e130 : Env := mkEnv [] []
theorem e130_ok : EnvOK Try.prog e130 := mkEnv_ok (by intro p hp; cases hp) (by intro p hp; cases hp)
theorem w130_pur : ∀ c, opens Ap c = true → PurEnv e130 c := mkEnv_pur _ _ (by intro p hp; cases hp)
theorem o130 : PureOK Try.prog 130 true (FA fun a : TStamp × TStamp => p_laws_eqStamp a.1 a.2) := pure_tells e130_ok w130_pur (md := Md) (by kernel_rfl) (A := c_laws_eqStamp) (by kernel_rfl) (by
  rintro ⟨x, y⟩ b hb
  exact d_laws_eqStamp x y hb)
noncomputable def e127 : Env := mkEnv [(130, true, FA fun a : TStamp × TStamp => p_laws_eqStamp a.1 a.2)] []
theorem e127_ok : EnvOK Try.prog e127 := mkEnv_ok (by
  intro p hp
  simp only [List.mem_cons, List.not_mem_nil, or_false] at hp
  subst hp
  exact o130) (by intro p hp; cases hp)
theorem w127_pur : ∀ c, opens Ap c = true → PurEnv e127 c := mkEnv_pur _ _ (by intro p hp; cases hp)
theorem u127_130 : e127 (2 * 130) = pureFn true (FA fun a : TStamp × TStamp => p_laws_eqStamp a.1 a.2) := by
  unfold e127
  exact mkEnv_at (by rfl)
theorem o127 : PureOK Try.prog 127 true (FA fun a : TEntry × TEntry => p_laws_eqEntry a.1 a.2) := pure_tells e127_ok w127_pur (md := Md) (by kernel_rfl) (A := c_laws_eqEntry 130) (by kernel_rfl) (by
  rintro ⟨x, y⟩ b hb
  exact d_laws_eqEntry u127_130 x y hb)
noncomputable def e107 : Env := mkEnv [(127, true, FA fun a : TEntry × TEntry => p_laws_eqEntry a.1 a.2)] []
theorem e107_ok : EnvOK Try.prog e107 := mkEnv_ok (by
  intro p hp
  simp only [List.mem_cons, List.not_mem_nil, or_false] at hp
  subst hp
  exact o127) (by intro p hp; cases hp)
theorem w107_pur : ∀ c, opens Ap c = true → PurEnv e107 c := mkEnv_pur _ _ (by intro p hp; cases hp)
theorem u107_127 : e107 (2 * 127) = pureFn true (FA fun a : TEntry × TEntry => p_laws_eqEntry a.1 a.2) := by
  unfold e107
  exact mkEnv_at (by rfl)
theorem o107 : PureOK Try.prog 107 true (FA fun a : List TEntry × List TEntry => p_laws_eqEntryS a.1 a.2) := pure_tells e107_ok w107_pur (md := Md) (by kernel_rfl) (A := c_laws_eqEntryS 127) (by kernel_rfl) (by
  rintro ⟨x, y⟩ b hb
  exact d_laws_eqEntryS u107_127 x y hb)
noncomputable def e68 : Env := mkEnv [(24, true, FA fun a : TVec × TVec => p_laws_eqVector a.1 a.2), (107, true, FA fun a : List TEntry × List TEntry => p_laws_eqEntryS a.1 a.2)] []
theorem e68_ok : EnvOK Try.prog e68 := mkEnv_ok (by
  intro p hp
  simp only [List.mem_cons, List.not_mem_nil, or_false] at hp
  rcases hp with rfl | rfl
  · exact o24
  · exact o107) (by intro p hp; cases hp)
theorem w68_pur : ∀ c, opens Ap c = true → PurEnv e68 c := mkEnv_pur _ _ (by intro p hp; cases hp)
theorem u68_24 : e68 (2 * 24) = pureFn true (FA fun a : TVec × TVec => p_laws_eqVector a.1 a.2) := by
  unfold e68
  exact mkEnv_at (by rfl)
theorem u68_107 : e68 (2 * 107) = pureFn true (FA fun a : List TEntry × List TEntry => p_laws_eqEntryS a.1 a.2) := by
  unfold e68
  exact mkEnv_at (by rfl)
theorem o68 : PureOK Try.prog 68 true (FA fun a : TMulti × TMulti => p_laws_eqSet a.1 a.2) := pure_tells e68_ok w68_pur (md := Md) (by kernel_rfl) (A := c_laws_eqSet 24 107) (by kernel_rfl) (by
  rintro ⟨x, y⟩ b hb
  exact d_laws_eqSet u68_24 u68_107 x y hb)
noncomputable def e32 : Env := mkEnv [] []
theorem e32_ok : EnvOK Try.prog e32 := mkEnv_ok (by intro p hp; cases hp) (by intro p hp; cases hp)
theorem w32_pur : ∀ c, opens Ap c = true → PurEnv e32 c := mkEnv_pur _ _ (by intro p hp; cases hp)
theorem y32 : FunOK Try.prog 32 (runIn Try.prog e32 (c_laws_markIntS)) := runIn_ok e32_ok w32_pur (md := Md) (by kernel_rfl) (by kernel_rfl)
noncomputable def e25 : Env := mkEnv [] [(32, (runIn Try.prog e32 (c_laws_markIntS)))]
theorem e25_ok : EnvOK Try.prog e25 := mkEnv_ok (by intro p hp; cases hp) (by
  intro p hp
  simp only [List.mem_cons, List.not_mem_nil, or_false] at hp
  subst hp
  exact y32)
theorem w25_pur : ∀ c, opens Ap c = true → PurEnv e25 c := mkEnv_pur _ _ (by
  intro p hp
  simp only [List.mem_cons, List.not_mem_nil, or_false] at hp
  subst hp
  intro h; exact absurd h (by rw [show Ap 32 = false from rfl]; exact Bool.false_ne_true))
theorem x25_32 : k_laws_markIntS (e25 (2 * 32 + 1)) := by
  unfold e25
  rw [mkEnv_own (g := (runIn Try.prog e32 (c_laws_markIntS))) (by rfl)]
  exact ko_laws_markIntS
theorem y25 : FunOK Try.prog 25 (runIn Try.prog e25 (c_laws_markVector 32)) := runIn_ok e25_ok w25_pur (md := Md) (by kernel_rfl) (by kernel_rfl)
noncomputable def e85 : Env := mkEnv [] []
theorem e85_ok : EnvOK Try.prog e85 := mkEnv_ok (by intro p hp; cases hp) (by intro p hp; cases hp)
theorem w85_pur : ∀ c, opens Ap c = true → PurEnv e85 c := mkEnv_pur _ _ (by intro p hp; cases hp)
theorem o85 : PureOK Try.prog 85 true (FA fun a : Int => p_laws_markText a) := pure_tells e85_ok w85_pur (md := Md) (by kernel_rfl) (A := c_laws_markText) (by kernel_rfl) (by
  rintro x b hb
  exact d_laws_markText x hb)
noncomputable def e108 : Env := mkEnv [(85, true, FA fun a : Int => p_laws_markText a)] []
theorem e108_ok : EnvOK Try.prog e108 := mkEnv_ok (by
  intro p hp
  simp only [List.mem_cons, List.not_mem_nil, or_false] at hp
  subst hp
  exact o85) (by intro p hp; cases hp)
theorem w108_pur : ∀ c, opens Ap c = true → PurEnv e108 c := mkEnv_pur _ _ (by intro p hp; cases hp)
theorem u108_85 : e108 (2 * 85) = pureFn true (FA fun a : Int => p_laws_markText a) := by
  unfold e108
  exact mkEnv_at (by rfl)
theorem y108 : FunOK Try.prog 108 (runIn Try.prog e108 (c_laws_markEntryS 85)) := runIn_ok e108_ok w108_pur (md := Md) (by kernel_rfl) (by kernel_rfl)
noncomputable def e69 : Env := mkEnv [] [(25, (runIn Try.prog e25 (c_laws_markVector 32))), (108, (runIn Try.prog e108 (c_laws_markEntryS 85)))]
theorem e69_ok : EnvOK Try.prog e69 := mkEnv_ok (by intro p hp; cases hp) (by
  intro p hp
  simp only [List.mem_cons, List.not_mem_nil, or_false] at hp
  rcases hp with rfl | rfl
  · exact y25
  · exact y108)
theorem w69_pur : ∀ c, opens Ap c = true → PurEnv e69 c := mkEnv_pur _ _ (by
  intro p hp
  simp only [List.mem_cons, List.not_mem_nil, or_false] at hp
  rcases hp with rfl | rfl
  · intro h; exact absurd h (by rw [show Ap 25 = false from rfl]; exact Bool.false_ne_true)
  · intro h; exact absurd h (by rw [show Ap 108 = false from rfl]; exact Bool.false_ne_true))
theorem x69_25 : k_laws_markVector (e69 (2 * 25 + 1)) := by
  unfold e69
  rw [mkEnv_own (g := (runIn Try.prog e25 (c_laws_markVector 32))) (by rfl)]
  exact ko_laws_markVector x25_32
theorem x69_108 : k_laws_markEntryS (e69 (2 * 108 + 1)) := by
  unfold e69
  rw [mkEnv_own (g := (runIn Try.prog e108 (c_laws_markEntryS 85))) (by rfl)]
  exact ko_laws_markEntryS u108_85
theorem y69 : FunOK Try.prog 69 (runIn Try.prog e69 (c_laws_markSet 25 108)) := runIn_ok e69_ok w69_pur (md := Md) (by kernel_rfl) (by kernel_rfl)
noncomputable def e63 : Env := mkEnv [] []
theorem e63_ok : EnvOK Try.prog e63 := mkEnv_ok (by intro p hp; cases hp) (by intro p hp; cases hp)
theorem w63_pur : ∀ c, opens Ap c = true → PurEnv e63 c := mkEnv_pur _ _ (by intro p hp; cases hp)
theorem o63 : PureOK Try.prog 63 true (FA fun a : List Int × Int => p_laws_heldIntS a.1 a.2) := pure_tells e63_ok w63_pur (md := Md) (by kernel_rfl) (A := c_laws_heldIntS) (by kernel_rfl) (by
  rintro ⟨x, y⟩ b hb
  exact d_laws_heldIntS x y hb)
noncomputable def e26 : Env := mkEnv [(63, true, FA fun a : List Int × Int => p_laws_heldIntS a.1 a.2)] []
theorem e26_ok : EnvOK Try.prog e26 := mkEnv_ok (by
  intro p hp
  simp only [List.mem_cons, List.not_mem_nil, or_false] at hp
  subst hp
  exact o63) (by intro p hp; cases hp)
theorem w26_pur : ∀ c, opens Ap c = true → PurEnv e26 c := mkEnv_pur _ _ (by intro p hp; cases hp)
theorem u26_63 : e26 (2 * 63) = pureFn true (FA fun a : List Int × Int => p_laws_heldIntS a.1 a.2) := by
  unfold e26
  exact mkEnv_at (by rfl)
theorem o26 : PureOK Try.prog 26 true (FA fun a : TVec × Int => p_laws_heldVector a.1 a.2) := pure_tells e26_ok w26_pur (md := Md) (by kernel_rfl) (A := c_laws_heldVector 63) (by kernel_rfl) (by
  rintro ⟨x, y⟩ b hb
  exact d_laws_heldVector u26_63 x y hb)
noncomputable def e109 : Env := mkEnv [(85, true, FA fun a : Int => p_laws_markText a)] []
theorem e109_ok : EnvOK Try.prog e109 := mkEnv_ok (by
  intro p hp
  simp only [List.mem_cons, List.not_mem_nil, or_false] at hp
  subst hp
  exact o85) (by intro p hp; cases hp)
theorem w109_pur : ∀ c, opens Ap c = true → PurEnv e109 c := mkEnv_pur _ _ (by intro p hp; cases hp)
theorem u109_85 : e109 (2 * 85) = pureFn true (FA fun a : Int => p_laws_markText a) := by
  unfold e109
  exact mkEnv_at (by rfl)
theorem o109 : PureOK Try.prog 109 true (FA fun a : List TEntry × Int => p_laws_heldEntryS a.1 a.2) := pure_tells e109_ok w109_pur (md := Md) (by kernel_rfl) (A := c_laws_heldEntryS 85) (by kernel_rfl) (by
  rintro ⟨x, y⟩ b hb
  exact d_laws_heldEntryS u109_85 x y hb)
noncomputable def e70 : Env := mkEnv [(26, true, FA fun a : TVec × Int => p_laws_heldVector a.1 a.2), (109, true, FA fun a : List TEntry × Int => p_laws_heldEntryS a.1 a.2)] []
theorem e70_ok : EnvOK Try.prog e70 := mkEnv_ok (by
  intro p hp
  simp only [List.mem_cons, List.not_mem_nil, or_false] at hp
  rcases hp with rfl | rfl
  · exact o26
  · exact o109) (by intro p hp; cases hp)
theorem w70_pur : ∀ c, opens Ap c = true → PurEnv e70 c := mkEnv_pur _ _ (by intro p hp; cases hp)
theorem u70_26 : e70 (2 * 26) = pureFn true (FA fun a : TVec × Int => p_laws_heldVector a.1 a.2) := by
  unfold e70
  exact mkEnv_at (by rfl)
theorem u70_109 : e70 (2 * 109) = pureFn true (FA fun a : List TEntry × Int => p_laws_heldEntryS a.1 a.2) := by
  unfold e70
  exact mkEnv_at (by rfl)
theorem o70 : PureOK Try.prog 70 true (FA fun a : TMulti × Int => p_laws_heldSet a.1 a.2) := pure_tells e70_ok w70_pur (md := Md) (by kernel_rfl) (A := c_laws_heldSet 26 109) (by kernel_rfl) (by
  rintro ⟨x, y⟩ b hb
  exact d_laws_heldSet u70_26 u70_109 x y hb)
noncomputable def e14 : Env := mkEnv [(64, true, FA fun a : TMulti × Int => p_laws_szSet a.1 a.2), (66, true, FA fun a : TMulti => p_laws_toSet a), (65, false, FA fun a : TMulti × ByteArray => p_spec_SetRemove a.1 a.2), (68, true, FA fun a : TMulti × TMulti => p_laws_eqSet a.1 a.2), (70, true, FA fun a : TMulti × Int => p_laws_heldSet a.1 a.2)] [(66, (ownFn Try.prog e66 (c_laws_toSet 22 104))), (67, (ownFn Try.prog e67 (c_impl_SetRemove 105 93 106))), (69, (runIn Try.prog e69 (c_laws_markSet 25 108)))]
theorem e14_ok : EnvOK Try.prog e14 := mkEnv_ok (by
  intro p hp
  simp only [List.mem_cons, List.not_mem_nil, or_false] at hp
  rcases hp with rfl | rfl | rfl | rfl | rfl
  · exact o64
  · exact o66
  · exact o65
  · exact o68
  · exact o70) (by
  intro p hp
  simp only [List.mem_cons, List.not_mem_nil, or_false] at hp
  rcases hp with rfl | rfl | rfl
  · exact y66
  · exact y67
  · exact y69)
theorem w14_pur : ∀ c, opens ApL c = true → PurEnv e14 c := mkEnv_pur _ _ (by
  intro p hp
  simp only [List.mem_cons, List.not_mem_nil, or_false] at hp
  rcases hp with rfl | rfl | rfl
  · intro h; exact absurd h (by rw [show ApL 66 = false from rfl]; exact Bool.false_ne_true)
  · intro h; exact absurd h (by rw [show ApL 67 = false from rfl]; exact Bool.false_ne_true)
  · intro h; exact absurd h (by rw [show ApL 69 = false from rfl]; exact Bool.false_ne_true))
theorem u14_64 : e14 (2 * 64) = pureFn true (FA fun a : TMulti × Int => p_laws_szSet a.1 a.2) := by
  unfold e14
  exact mkEnv_at (by rfl)
theorem u14_66 : e14 (2 * 66) = pureFn true (FA fun a : TMulti => p_laws_toSet a) := by
  unfold e14
  exact mkEnv_at (by rfl)
theorem u14_65 : e14 (2 * 65) = pureFn false (FA fun a : TMulti × ByteArray => p_spec_SetRemove a.1 a.2) := by
  unfold e14
  exact mkEnv_at (by rfl)
theorem u14_68 : e14 (2 * 68) = pureFn true (FA fun a : TMulti × TMulti => p_laws_eqSet a.1 a.2) := by
  unfold e14
  exact mkEnv_at (by rfl)
theorem u14_70 : e14 (2 * 70) = pureFn true (FA fun a : TMulti × Int => p_laws_heldSet a.1 a.2) := by
  unfold e14
  exact mkEnv_at (by rfl)
theorem x14_66 : k_laws_toSet (e14 (2 * 66 + 1)) := by
  unfold e14
  rw [mkEnv_own (g := (ownFn Try.prog e66 (c_laws_toSet 22 104))) (by rfl)]
  exact ko_laws_toSet x66_22 x66_104
theorem x14_67 : k_impl_SetRemove (e14 (2 * 67 + 1)) := by
  unfold e14
  rw [mkEnv_own (g := (ownFn Try.prog e67 (c_impl_SetRemove 105 93 106))) (by rfl)]
  exact ko_impl_SetRemove u67_105 x67_93 x67_106
theorem x14_69 : k_laws_markSet (e14 (2 * 69 + 1)) := by
  unfold e14
  rw [mkEnv_own (g := (runIn Try.prog e69 (c_laws_markSet 25 108))) (by rfl)]
  exact ko_laws_markSet x69_25 x69_108
theorem law : LawOK Try.prog 14 [.st [.st [.sl 8 (.int .i64)], .sl 32 (.st [.st [.int .i64, .int .i64], .str])], .str] := law_of_run e14_ok w14_pur (md := MdL) (A := c_laws_FnExactSetRemove 64 66 65 67 68 69 70) (by kernel_rfl) (by
  intro xs hx
  cases hx with
  | cons h0 hx =>
  cases hx with
  | cons h1 hx =>
  cases hx
  obtain ⟨a0, rfl, k0⟩ := fit_TMulti h0
  obtain ⟨a1, rfl, k1⟩ := fit_str h1
  exact d_laws_FnExactSetRemove u14_64 u14_66 u14_65 u14_68 u14_70 x14_66 x14_67 x14_69 a0 a1 (plain_SetRemove a0 a1 k0 k1))
theorem own : ownKnob Try.prog.godebug = none := by kernel_rfl
theorem laidOut : laidOutB Try.prog = true := by kernel_rfl
set_option maxRecDepth 100000 in
theorem lifted (os : Os) (started : os.Started) (H : Type) (enc : TypeId × Value → H) :
    ReturnsInHanded {} Try.checked os 14 .any (Rows.fnExactSetRemoveSpec.pre6 enc Try.prog Try.f14 Rows.fnExactSetRemoveRow.domain false) (Rows.fnExactSetRemoveSpec.post enc Try.prog Try.f14 false true false false) := by
  refine returnsInHanded_of_change_sized (C := Try.checked) own started (by kernel_rfl) Try.func14
    (ChangeSpec.witness6 (enc := enc) (C := Try.checked) false ⟨#[], #[.agg #[.slice none 0 0, .slice none 0 0], .string ⟨#[]⟩], []⟩ 8 (by kernel_rfl) (by kernel_rfl) (by kernel_rfl) (by kernel_rfl)) ?_
  intro W base args ds gs before hval hW hcnd hsz _
  refine law_contract (n := 8) (tb := 4) (shs := [.st [.st [.sl 8 (.int .i64)], .sl 32 (.st [.st [.int .i64, .int .i64], .str])], .str]) laidOut rfl ?_ (by kernel_rfl) Try.underlying4 (by kernel_rfl) (by kernel_rfl) law W base args ds gs before hval hW hsz
  intro ds hds
  have h1 : ds.length = 2 := hds
  match ds, h1 with
  | [d0, d1], _ => rfl
theorem over : Rows.fnExactSetRemoveRow.holds Try.pinned (OpenSpec.ofChange Rows.fnExactSetRemoveSpec) :=
  OpenClaim.holds_of_wide 14 Try.f14 rfl rfl rfl rfl rfl rfl rfl ⟨rfl, rfl, rfl, rfl, rfl⟩ rfl rfl rfl rfl rfl (by kernel_rfl) Try.func14 (by kernel_rfl)
    (of_decide_eq_true (by kernel_rfl)) (by unfold Func.isWrapper; first | (rw [if_pos (by decide +kernel)]; kernel_rfl) | (rw [if_neg (by decide +kernel)]; exact ⟨rfl, rfl⟩))
    (fun os started H enc _ => lifted os started H enc)
theorem proved : Rows.FnExactSetRemoveSaid := over
#print axioms proved
end Go.Proofs.Ytjnkmdphjopboaa.RFnExactSetRemove
namespace Go.Proofs.Ytjnkmdphjopboaa
/-- The row, under a short name, for the claim. -/
theorem fnExactSetRemove_holds : Rows.FnExactSetRemoveSaid := RFnExactSetRemove.proved
end Go.Proofs.Ytjnkmdphjopboaa
