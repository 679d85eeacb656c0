/- The law FnExactSetJoin: its functions' contracts, its run, its row. No condition. -/
import Derived.Test.YtjnkmdphjopboabRows
import Derived.Test.YtjnkmdphjopboabLabPSetJoin
import Derived.WalkKit
import Derived.ProofKit
set_option linter.unusedVariables false
namespace Go.Proofs.Ytjnkmdphjopboab.RFnExactSetJoin
open Go.AM
open Pic (enc dec dec_enc dec_sub)
def Md : Modes := fun f => if f == 11 then 4 else if f == 12 then 1 else if f == 13 then 1 else if f == 15 then 2 else if f == 18 then 4 else if f == 19 then 1 else if f == 20 then 1 else if f == 22 then 2 else if f == 24 then 4 else if f == 25 then 1 else if f == 27 then 2 else if f == 30 then 4 else if f == 31 then 1 else if f == 36 then 4 else if f == 37 then 1 else if f == 38 then 1 else if f == 39 then 1 else if f == 42 then 2 else if f == 43 then 2 else if f == 45 then 4 else if f == 46 then 1 else if f == 49 then 2 else if f == 50 then 2 else if f == 51 then 2 else if f == 54 then 4 else if f == 55 then 1 else if f == 59 then 1 else if f == 61 then 1 else if f == 62 then 1 else if f == 64 then 1 else if f == 67 then 2 else if f == 68 then 2 else if f == 84 then 1 else if f == 85 then 1 else if f == 97 then 1 else if f == 100 then 4 else if f == 101 then 4 else if f == 102 then 4 else if f == 104 then 1 else if f == 105 then 1 else if f == 110 then 1 else if f == 113 then 2 else 0
def Ap : Nat → Bool := fun f => Md f == 1
def MdL : Modes := fun f => if Md f == 1 then 3 else Md f
def ApL : Nat → Bool := fun f => MdL f == 1
noncomputable def e98 : Env := mkEnv [] []
theorem e98_ok : EnvOK Try.prog e98 := mkEnv_ok (by intro p hp; cases hp) (by intro p hp; cases hp)
theorem w98_pur : ∀ c, opens Ap c = true → PurEnv e98 c := mkEnv_pur _ _ (by intro p hp; cases hp)
theorem o98 : PureOK Try.prog 98 true (FA fun a : List Int × Int => p_laws_szIntS a.1 a.2) := pure_tells e98_ok w98_pur (md := Md) (by kernel_rfl) (A := c_laws_szIntS) (by kernel_rfl) (by
  rintro ⟨x, y⟩ b hb
  exact d_laws_szIntS x y hb)
noncomputable def e56 : Env := mkEnv [(98, true, FA fun a : List Int × Int => p_laws_szIntS a.1 a.2)] []
theorem e56_ok : EnvOK Try.prog e56 := mkEnv_ok (by
  intro p hp
  simp only [List.mem_cons, List.not_mem_nil, or_false] at hp
  subst hp
  exact o98) (by intro p hp; cases hp)
theorem w56_pur : ∀ c, opens Ap c = true → PurEnv e56 c := mkEnv_pur _ _ (by intro p hp; cases hp)
theorem u56_98 : e56 (2 * 98) = pureFn true (FA fun a : List Int × Int => p_laws_szIntS a.1 a.2) := by
  unfold e56
  exact mkEnv_at (by rfl)
theorem o56 : PureOK Try.prog 56 true (FA fun a : TVec × Int => p_laws_szVector a.1 a.2) := pure_tells e56_ok w56_pur (md := Md) (by kernel_rfl) (A := c_laws_szVector 98) (by kernel_rfl) (by
  rintro ⟨x, y⟩ b hb
  exact d_laws_szVector u56_98 x y hb)
noncomputable def e99 : Env := mkEnv [] []
theorem e99_ok : EnvOK Try.prog e99 := mkEnv_ok (by intro p hp; cases hp) (by intro p hp; cases hp)
theorem w99_pur : ∀ c, opens Ap c = true → PurEnv e99 c := mkEnv_pur _ _ (by intro p hp; cases hp)
theorem o99 : PureOK Try.prog 99 true (FA fun a : TEntry × Int => p_laws_szEntry a.1 a.2) := pure_tells e99_ok w99_pur (md := Md) (by kernel_rfl) (A := c_laws_szEntry) (by kernel_rfl) (by
  rintro ⟨x, y⟩ b hb
  exact d_laws_szEntry x y hb)
noncomputable def e57 : Env := mkEnv [(99, true, FA fun a : TEntry × Int => p_laws_szEntry a.1 a.2)] []
theorem e57_ok : EnvOK Try.prog e57 := mkEnv_ok (by
  intro p hp
  simp only [List.mem_cons, List.not_mem_nil, or_false] at hp
  subst hp
  exact o99) (by intro p hp; cases hp)
theorem w57_pur : ∀ c, opens Ap c = true → PurEnv e57 c := mkEnv_pur _ _ (by intro p hp; cases hp)
theorem u57_99 : e57 (2 * 99) = pureFn true (FA fun a : TEntry × Int => p_laws_szEntry a.1 a.2) := by
  unfold e57
  exact mkEnv_at (by rfl)
theorem o57 : PureOK Try.prog 57 true (FA fun a : List TEntry × Int => p_laws_szEntryS a.1 a.2) := pure_tells e57_ok w57_pur (md := Md) (by kernel_rfl) (A := c_laws_szEntryS 99) (by kernel_rfl) (by
  rintro ⟨x, y⟩ b hb
  exact d_laws_szEntryS u57_99 x y hb)
noncomputable def e17 : Env := mkEnv [(56, true, FA fun a : TVec × Int => p_laws_szVector a.1 a.2), (57, true, FA fun a : List TEntry × Int => p_laws_szEntryS a.1 a.2)] []
theorem e17_ok : EnvOK Try.prog e17 := mkEnv_ok (by
  intro p hp
  simp only [List.mem_cons, List.not_mem_nil, or_false] at hp
  rcases hp with rfl | rfl
  · exact o56
  · exact o57) (by intro p hp; cases hp)
theorem w17_pur : ∀ c, opens Ap c = true → PurEnv e17 c := mkEnv_pur _ _ (by intro p hp; cases hp)
theorem u17_56 : e17 (2 * 56) = pureFn true (FA fun a : TVec × Int => p_laws_szVector a.1 a.2) := by
  unfold e17
  exact mkEnv_at (by rfl)
theorem u17_57 : e17 (2 * 57) = pureFn true (FA fun a : List TEntry × Int => p_laws_szEntryS a.1 a.2) := by
  unfold e17
  exact mkEnv_at (by rfl)
theorem o17 : PureOK Try.prog 17 true (FA fun a : TMulti × Int => p_laws_szSet a.1 a.2) := pure_tells e17_ok w17_pur (md := Md) (by kernel_rfl) (A := c_laws_szSet 56 57) (by kernel_rfl) (by
  rintro ⟨x, y⟩ b hb
  exact d_laws_szSet u17_56 u17_57 x y hb)
noncomputable def e105 : Env := mkEnv [] []
theorem e105_ok : EnvOK Try.prog e105 := mkEnv_ok (by intro p hp; cases hp) (by intro p hp; cases hp)
theorem w105_pur : ∀ c, opens Ap c = true → PurEnv e105 c := mkEnv_pur _ _ (by intro p hp; cases hp)
theorem y105 : FunOK Try.prog 105 (ownFn Try.prog e105 (c_laws_toIntS)) := ownFn_ok e105_ok w105_pur (md := Md) (by kernel_rfl) (by kernel_rfl)
noncomputable def e61 : Env := mkEnv [] [(105, (ownFn Try.prog e105 (c_laws_toIntS)))]
theorem e61_ok : EnvOK Try.prog e61 := mkEnv_ok (by intro p hp; cases hp) (by
  intro p hp
  simp only [List.mem_cons, List.not_mem_nil, or_false] at hp
  subst hp
  exact y105)
theorem w61_pur : ∀ c, opens Ap c = true → PurEnv e61 c := mkEnv_pur _ _ (by
  intro p hp
  simp only [List.mem_cons, List.not_mem_nil, or_false] at hp
  subst hp
  intro _; exact ownFn_app)
theorem x61_105 : k_laws_toIntS (e61 (2 * 105 + 1)) := by
  unfold e61
  rw [mkEnv_own (g := (ownFn Try.prog e105 (c_laws_toIntS))) (by rfl)]
  exact ko_laws_toIntS
theorem y61 : FunOK Try.prog 61 (ownFn Try.prog e61 (c_laws_toVector 105)) := ownFn_ok e61_ok w61_pur (md := Md) (by kernel_rfl) (by kernel_rfl)
noncomputable def e118 : Env := mkEnv [] []
theorem e118_ok : EnvOK Try.prog e118 := mkEnv_ok (by intro p hp; cases hp) (by intro p hp; cases hp)
theorem w118_pur : ∀ c, opens Ap c = true → PurEnv e118 c := mkEnv_pur _ _ (by intro p hp; cases hp)
theorem o118 : PureOK Try.prog 118 true (FA fun a : TStamp => p_laws_toStamp a) := pure_tells e118_ok w118_pur (md := Md) (by kernel_rfl) (A := c_laws_toStamp) (by kernel_rfl) (by
  rintro x b hb
  exact d_laws_toStamp x hb)
noncomputable def e106 : Env := mkEnv [(118, true, FA fun a : TStamp => p_laws_toStamp a)] []
theorem e106_ok : EnvOK Try.prog e106 := mkEnv_ok (by
  intro p hp
  simp only [List.mem_cons, List.not_mem_nil, or_false] at hp
  subst hp
  exact o118) (by intro p hp; cases hp)
theorem w106_pur : ∀ c, opens Ap c = true → PurEnv e106 c := mkEnv_pur _ _ (by intro p hp; cases hp)
theorem u106_118 : e106 (2 * 118) = pureFn true (FA fun a : TStamp => p_laws_toStamp a) := by
  unfold e106
  exact mkEnv_at (by rfl)
theorem o106 : PureOK Try.prog 106 true (FA fun a : TEntry => p_laws_toEntry a) := pure_tells e106_ok w106_pur (md := Md) (by kernel_rfl) (A := c_laws_toEntry 118) (by kernel_rfl) (by
  rintro x b hb
  exact d_laws_toEntry u106_118 x hb)
noncomputable def e62 : Env := mkEnv [(106, true, FA fun a : TEntry => p_laws_toEntry a)] []
theorem e62_ok : EnvOK Try.prog e62 := mkEnv_ok (by
  intro p hp
  simp only [List.mem_cons, List.not_mem_nil, or_false] at hp
  subst hp
  exact o106) (by intro p hp; cases hp)
theorem w62_pur : ∀ c, opens Ap c = true → PurEnv e62 c := mkEnv_pur _ _ (by intro p hp; cases hp)
theorem u62_106 : e62 (2 * 106) = pureFn true (FA fun a : TEntry => p_laws_toEntry a) := by
  unfold e62
  exact mkEnv_at (by rfl)
theorem y62 : FunOK Try.prog 62 (ownFn Try.prog e62 (c_laws_toEntryS 106)) := ownFn_ok e62_ok w62_pur (md := Md) (by kernel_rfl) (by kernel_rfl)
noncomputable def e19 : Env := mkEnv [] [(61, (ownFn Try.prog e61 (c_laws_toVector 105))), (62, (ownFn Try.prog e62 (c_laws_toEntryS 106)))]
theorem e19_ok : EnvOK Try.prog e19 := mkEnv_ok (by intro p hp; cases hp) (by
  intro p hp
  simp only [List.mem_cons, List.not_mem_nil, or_false] at hp
  rcases hp with rfl | rfl
  · exact y61
  · exact y62)
theorem w19_pur : ∀ c, opens Ap c = true → PurEnv e19 c := mkEnv_pur _ _ (by
  intro p hp
  simp only [List.mem_cons, List.not_mem_nil, or_false] at hp
  rcases hp with rfl | rfl
  · intro _; exact ownFn_app
  · intro _; exact ownFn_app)
theorem x19_61 : k_laws_toVector (e19 (2 * 61 + 1)) := by
  unfold e19
  rw [mkEnv_own (g := (ownFn Try.prog e61 (c_laws_toVector 105))) (by rfl)]
  exact ko_laws_toVector x61_105
theorem x19_62 : k_laws_toEntryS (e19 (2 * 62 + 1)) := by
  unfold e19
  rw [mkEnv_own (g := (ownFn Try.prog e62 (c_laws_toEntryS 106))) (by rfl)]
  exact ko_laws_toEntryS u62_106
theorem o19 : PureOK Try.prog 19 true (FA fun a : TMulti => p_laws_toSet a) := pure_tells e19_ok w19_pur (md := Md) (by kernel_rfl) (A := c_laws_toSet 61 62) (by kernel_rfl) (by
  rintro x b hb
  exact d_laws_toSet x19_61 x19_62 x hb)
theorem y19 : FunOK Try.prog 19 (ownFn Try.prog e19 (c_laws_toSet 61 62)) := ownFn_ok e19_ok w19_pur (md := Md) (by kernel_rfl) (by kernel_rfl)
noncomputable def e100 : Env := mkEnv [] []
theorem e100_ok : EnvOK Try.prog e100 := mkEnv_ok (by intro p hp; cases hp) (by intro p hp; cases hp)
theorem w100_pur : ∀ c, opens Ap c = true → PurEnv e100 c := mkEnv_pur _ _ (by intro p hp; cases hp)
theorem o100 : PureOK Try.prog 100 true (FA fun a : TVec => p_spec_VecOK a) := pure_tells e100_ok w100_pur (md := Md) (by kernel_rfl) (A := c_spec_VecOK) (by kernel_rfl) (by
  rintro x b hb
  exact d_spec_VecOK x hb)
noncomputable def e101 : Env := mkEnv [] []
theorem e101_ok : EnvOK Try.prog e101 := mkEnv_ok (by intro p hp; cases hp) (by intro p hp; cases hp)
theorem w101_pur : ∀ c, opens Ap c = true → PurEnv e101 c := mkEnv_pur _ _ (by intro p hp; cases hp)
theorem o101 : PureOK Try.prog 101 true (FA fun a : TStamp => p_spec_StampOK a) := pure_tells e101_ok w101_pur (md := Md) (by kernel_rfl) (A := c_spec_StampOK) (by kernel_rfl) (by
  rintro x b hb
  exact d_spec_StampOK x hb)
noncomputable def e102 : Env := mkEnv [] []
theorem e102_ok : EnvOK Try.prog e102 := mkEnv_ok (by intro p hp; cases hp) (by intro p hp; cases hp)
theorem w102_pur : ∀ c, opens Ap c = true → PurEnv e102 c := mkEnv_pur _ _ (by intro p hp; cases hp)
theorem o102 : PureOK Try.prog 102 true (FA fun a : TStamp × TStamp => p_spec_StampLess a.1 a.2) := pure_tells e102_ok w102_pur (md := Md) (by kernel_rfl) (A := c_spec_StampLess) (by kernel_rfl) (by
  rintro ⟨x, y⟩ b hb
  exact d_spec_StampLess x y hb)
noncomputable def e58 : Env := mkEnv [(100, true, FA fun a : TVec => p_spec_VecOK a), (101, true, FA fun a : TStamp => p_spec_StampOK a), (102, true, FA fun a : TStamp × TStamp => p_spec_StampLess a.1 a.2)] []
theorem e58_ok : EnvOK Try.prog e58 := mkEnv_ok (by
  intro p hp
  simp only [List.mem_cons, List.not_mem_nil, or_false] at hp
  rcases hp with rfl | rfl | rfl
  · exact o100
  · exact o101
  · exact o102) (by intro p hp; cases hp)
theorem w58_pur : ∀ c, opens Ap c = true → PurEnv e58 c := mkEnv_pur _ _ (by intro p hp; cases hp)
theorem u58_100 : e58 (2 * 100) = pureFn true (FA fun a : TVec => p_spec_VecOK a) := by
  unfold e58
  exact mkEnv_at (by rfl)
theorem u58_101 : e58 (2 * 101) = pureFn true (FA fun a : TStamp => p_spec_StampOK a) := by
  unfold e58
  exact mkEnv_at (by rfl)
theorem u58_102 : e58 (2 * 102) = pureFn true (FA fun a : TStamp × TStamp => p_spec_StampLess a.1 a.2) := by
  unfold e58
  exact mkEnv_at (by rfl)
theorem o58 : PureOK Try.prog 58 true (FA fun a : TVec × List TEntry => p_spec_l03EntriesOK a.1 a.2) := pure_tells e58_ok w58_pur (md := Md) (by kernel_rfl) (A := c_spec_l03EntriesOK 100 101 102) (by kernel_rfl) (by
  rintro ⟨x, y⟩ b hb
  exact d_spec_l03EntriesOK u58_100 u58_101 u58_102 x y hb)
noncomputable def e103 : Env := mkEnv [] []
theorem e103_ok : EnvOK Try.prog e103 := mkEnv_ok (by intro p hp; cases hp) (by intro p hp; cases hp)
theorem w103_pur : ∀ c, opens Ap c = true → PurEnv e103 c := mkEnv_pur _ _ (by intro p hp; cases hp)
theorem o103 : PureOK Try.prog 103 true (FA fun a : List TEntry × TStamp => p_spec_l03Find a.1 a.2) := pure_tells e103_ok w103_pur (md := Md) (by kernel_rfl) (A := c_spec_l03Find) (by kernel_rfl) (by
  rintro ⟨x, y⟩ b hb
  exact d_spec_l03Find x y hb)
noncomputable def e104 : Env := mkEnv [(102, true, FA fun a : TStamp × TStamp => p_spec_StampLess a.1 a.2)] []
theorem e104_ok : EnvOK Try.prog e104 := mkEnv_ok (by
  intro p hp
  simp only [List.mem_cons, List.not_mem_nil, or_false] at hp
  subst hp
  exact o102) (by intro p hp; cases hp)
theorem w104_pur : ∀ c, opens Ap c = true → PurEnv e104 c := mkEnv_pur _ _ (by intro p hp; cases hp)
theorem u104_102 : e104 (2 * 102) = pureFn true (FA fun a : TStamp × TStamp => p_spec_StampLess a.1 a.2) := by
  unfold e104
  exact mkEnv_at (by rfl)
theorem y104 : FunOK Try.prog 104 (ownFn Try.prog e104 (c_spec_l03Insert 102)) := ownFn_ok e104_ok w104_pur (md := Md) (by kernel_rfl) (by kernel_rfl)
noncomputable def e59 : Env := mkEnv [(103, true, FA fun a : List TEntry × TStamp => p_spec_l03Find a.1 a.2)] [(104, (ownFn Try.prog e104 (c_spec_l03Insert 102)))]
theorem e59_ok : EnvOK Try.prog e59 := mkEnv_ok (by
  intro p hp
  simp only [List.mem_cons, List.not_mem_nil, or_false] at hp
  subst hp
  exact o103) (by
  intro p hp
  simp only [List.mem_cons, List.not_mem_nil, or_false] at hp
  subst hp
  exact y104)
theorem w59_pur : ∀ c, opens Ap c = true → PurEnv e59 c := mkEnv_pur _ _ (by
  intro p hp
  simp only [List.mem_cons, List.not_mem_nil, or_false] at hp
  subst hp
  intro _; exact ownFn_app)
theorem u59_103 : e59 (2 * 103) = pureFn true (FA fun a : List TEntry × TStamp => p_spec_l03Find a.1 a.2) := by
  unfold e59
  exact mkEnv_at (by rfl)
theorem x59_104 : k_spec_l03Insert (e59 (2 * 104 + 1)) := by
  unfold e59
  rw [mkEnv_own (g := (ownFn Try.prog e104 (c_spec_l03Insert 102))) (by rfl)]
  exact ko_spec_l03Insert u104_102
theorem y59 : FunOK Try.prog 59 (ownFn Try.prog e59 (c_spec_l03Join 103 104)) := ownFn_ok e59_ok w59_pur (md := Md) (by kernel_rfl) (by kernel_rfl)
noncomputable def e60 : Env := mkEnv [] []
theorem e60_ok : EnvOK Try.prog e60 := mkEnv_ok (by intro p hp; cases hp) (by intro p hp; cases hp)
theorem w60_pur : ∀ c, opens Ap c = true → PurEnv e60 c := mkEnv_pur _ _ (by intro p hp; cases hp)
theorem o60 : PureOK Try.prog 60 true (FA fun a : TVec × TVec => p_spec_l02Join a.1 a.2) := pure_tells e60_ok w60_pur (md := Md) (by kernel_rfl) (A := c_spec_l02Join) (by kernel_rfl) (by
  rintro ⟨x, y⟩ b hb
  exact d_spec_l02Join x y hb)
noncomputable def e11 : Env := mkEnv [(58, true, FA fun a : TVec × List TEntry => p_spec_l03EntriesOK a.1 a.2), (60, true, FA fun a : TVec × TVec => p_spec_l02Join a.1 a.2)] [(59, (ownFn Try.prog e59 (c_spec_l03Join 103 104)))]
theorem e11_ok : EnvOK Try.prog e11 := mkEnv_ok (by
  intro p hp
  simp only [List.mem_cons, List.not_mem_nil, or_false] at hp
  rcases hp with rfl | rfl
  · exact o58
  · exact o60) (by
  intro p hp
  simp only [List.mem_cons, List.not_mem_nil, or_false] at hp
  subst hp
  exact y59)
theorem w11_pur : ∀ c, opens Ap c = true → PurEnv e11 c := mkEnv_pur _ _ (by
  intro p hp
  simp only [List.mem_cons, List.not_mem_nil, or_false] at hp
  subst hp
  intro _; exact ownFn_app)
theorem u11_58 : e11 (2 * 58) = pureFn true (FA fun a : TVec × List TEntry => p_spec_l03EntriesOK a.1 a.2) := by
  unfold e11
  exact mkEnv_at (by rfl)
theorem u11_60 : e11 (2 * 60) = pureFn true (FA fun a : TVec × TVec => p_spec_l02Join a.1 a.2) := by
  unfold e11
  exact mkEnv_at (by rfl)
theorem x11_59 : k_spec_l03Join (e11 (2 * 59 + 1)) := by
  unfold e11
  rw [mkEnv_own (g := (ownFn Try.prog e59 (c_spec_l03Join 103 104))) (by rfl)]
  exact ko_spec_l03Join u59_103 x59_104
theorem o11 : PureOK Try.prog 11 false (FA fun a : TMulti × TMulti => p_spec_MultiJoin a.1 a.2) := pure_tells e11_ok w11_pur (md := Md) (by kernel_rfl) (A := c_spec_MultiJoin 58 59 60) (by kernel_rfl) (by
  rintro ⟨x, y⟩ b hb
  exact d_spec_MultiJoin u11_58 u11_60 x11_59 x y hb)
noncomputable def e18 : Env := mkEnv [(11, false, FA fun a : TMulti × TMulti => p_spec_MultiJoin a.1 a.2)] []
theorem e18_ok : EnvOK Try.prog e18 := mkEnv_ok (by
  intro p hp
  simp only [List.mem_cons, List.not_mem_nil, or_false] at hp
  subst hp
  exact o11) (by intro p hp; cases hp)
theorem w18_pur : ∀ c, opens Ap c = true → PurEnv e18 c := mkEnv_pur _ _ (by intro p hp; cases hp)
theorem u18_11 : e18 (2 * 11) = pureFn false (FA fun a : TMulti × TMulti => p_spec_MultiJoin a.1 a.2) := by
  unfold e18
  exact mkEnv_at (by rfl)
theorem o18 : PureOK Try.prog 18 false (FA fun a : TMulti × TMulti => p_spec_SetJoin a.1 a.2) := pure_tells e18_ok w18_pur (md := Md) (by kernel_rfl) (A := c_spec_SetJoin 11) (by kernel_rfl) (by
  rintro ⟨x, y⟩ b hb
  exact d_spec_SetJoin u18_11 x y hb)
noncomputable def e107 : Env := mkEnv [] []
theorem e107_ok : EnvOK Try.prog e107 := mkEnv_ok (by intro p hp; cases hp) (by intro p hp; cases hp)
theorem w107_pur : ∀ c, opens Ap c = true → PurEnv e107 c := mkEnv_pur _ _ (by intro p hp; cases hp)
theorem o107 : PureOK Try.prog 107 true (FA fun a : TVec => p_impl_VecOK a) := pure_tells e107_ok w107_pur (md := Md) (by kernel_rfl) (A := c_impl_VecOK) (by kernel_rfl) (by
  rintro x b hb
  exact d_impl_VecOK x hb)
noncomputable def e130 : Env := mkEnv [] []
theorem e130_ok : EnvOK Try.prog e130 := mkEnv_ok (by intro p hp; cases hp) (by intro p hp; cases hp)
theorem w130_pur : ∀ c, opens Ap c = true → PurEnv e130 c := mkEnv_pur _ _ (by intro p hp; cases hp)
theorem o130 : PureOK Try.prog 130 true (FA fun a : Int => p_impl_isActor a) := pure_tells e130_ok w130_pur (md := Md) (by kernel_rfl) (A := c_impl_isActor) (by kernel_rfl) (by
  rintro x b hb
  exact d_impl_isActor x hb)
noncomputable def e108 : Env := mkEnv [(130, true, FA fun a : Int => p_impl_isActor a)] []
theorem e108_ok : EnvOK Try.prog e108 := mkEnv_ok (by
  intro p hp
  simp only [List.mem_cons, List.not_mem_nil, or_false] at hp
  subst hp
  exact o130) (by intro p hp; cases hp)
theorem w108_pur : ∀ c, opens Ap c = true → PurEnv e108 c := mkEnv_pur _ _ (by intro p hp; cases hp)
theorem u108_130 : e108 (2 * 130) = pureFn true (FA fun a : Int => p_impl_isActor a) := by
  unfold e108
  exact mkEnv_at (by rfl)
theorem o108 : PureOK Try.prog 108 true (FA fun a : TStamp => p_impl_StampOK a) := pure_tells e108_ok w108_pur (md := Md) (by kernel_rfl) (A := c_impl_StampOK 130) (by kernel_rfl) (by
  rintro x b hb
  exact d_impl_StampOK u108_130 x hb)
noncomputable def e109 : Env := mkEnv [] []
theorem e109_ok : EnvOK Try.prog e109 := mkEnv_ok (by intro p hp; cases hp) (by intro p hp; cases hp)
theorem w109_pur : ∀ c, opens Ap c = true → PurEnv e109 c := mkEnv_pur _ _ (by intro p hp; cases hp)
theorem o109 : PureOK Try.prog 109 true (FA fun a : TStamp × TStamp => p_impl_StampLess a.1 a.2) := pure_tells e109_ok w109_pur (md := Md) (by kernel_rfl) (A := c_impl_StampLess) (by kernel_rfl) (by
  rintro ⟨x, y⟩ b hb
  exact d_impl_StampLess x y hb)
noncomputable def e63 : Env := mkEnv [(107, true, FA fun a : TVec => p_impl_VecOK a), (108, true, FA fun a : TStamp => p_impl_StampOK a), (109, true, FA fun a : TStamp × TStamp => p_impl_StampLess a.1 a.2)] []
theorem e63_ok : EnvOK Try.prog e63 := mkEnv_ok (by
  intro p hp
  simp only [List.mem_cons, List.not_mem_nil, or_false] at hp
  rcases hp with rfl | rfl | rfl
  · exact o107
  · exact o108
  · exact o109) (by intro p hp; cases hp)
theorem w63_pur : ∀ c, opens Ap c = true → PurEnv e63 c := mkEnv_pur _ _ (by intro p hp; cases hp)
theorem u63_107 : e63 (2 * 107) = pureFn true (FA fun a : TVec => p_impl_VecOK a) := by
  unfold e63
  exact mkEnv_at (by rfl)
theorem u63_108 : e63 (2 * 108) = pureFn true (FA fun a : TStamp => p_impl_StampOK a) := by
  unfold e63
  exact mkEnv_at (by rfl)
theorem u63_109 : e63 (2 * 109) = pureFn true (FA fun a : TStamp × TStamp => p_impl_StampLess a.1 a.2) := by
  unfold e63
  exact mkEnv_at (by rfl)
theorem o63 : PureOK Try.prog 63 true (FA fun a : TVec × List TEntry => p_impl_stateOK a.1 a.2) := pure_tells e63_ok w63_pur (md := Md) (by kernel_rfl) (A := c_impl_stateOK 107 108 109) (by kernel_rfl) (by
  rintro ⟨x, y⟩ b hb
  exact d_impl_stateOK u63_107 u63_108 u63_109 x y hb)
noncomputable def e110 : Env := mkEnv [] []
theorem e110_ok : EnvOK Try.prog e110 := mkEnv_ok (by intro p hp; cases hp) (by intro p hp; cases hp)
theorem w110_pur : ∀ c, opens Ap c = true → PurEnv e110 c := mkEnv_pur _ _ (by intro p hp; cases hp)
theorem y110 : FunOK Try.prog 110 (ownFn Try.prog e110 (c_impl_vecJoin)) := ownFn_ok e110_ok w110_pur (md := Md) (by kernel_rfl) (by kernel_rfl)
noncomputable def e64 : Env := mkEnv [(109, true, FA fun a : TStamp × TStamp => p_impl_StampLess a.1 a.2)] [(110, (ownFn Try.prog e110 (c_impl_vecJoin)))]
theorem e64_ok : EnvOK Try.prog e64 := mkEnv_ok (by
  intro p hp
  simp only [List.mem_cons, List.not_mem_nil, or_false] at hp
  subst hp
  exact o109) (by
  intro p hp
  simp only [List.mem_cons, List.not_mem_nil, or_false] at hp
  subst hp
  exact y110)
theorem w64_pur : ∀ c, opens Ap c = true → PurEnv e64 c := mkEnv_pur _ _ (by
  intro p hp
  simp only [List.mem_cons, List.not_mem_nil, or_false] at hp
  subst hp
  intro _; exact ownFn_app)
theorem u64_109 : e64 (2 * 109) = pureFn true (FA fun a : TStamp × TStamp => p_impl_StampLess a.1 a.2) := by
  unfold e64
  exact mkEnv_at (by rfl)
theorem x64_110 : k_impl_vecJoin (e64 (2 * 110 + 1)) := by
  unfold e64
  rw [mkEnv_own (g := (ownFn Try.prog e110 (c_impl_vecJoin))) (by rfl)]
  exact ko_impl_vecJoin
theorem y64 : FunOK Try.prog 64 (ownFn Try.prog e64 (c_impl_joinStates 109 110)) := ownFn_ok e64_ok w64_pur (md := Md) (by kernel_rfl) (by kernel_rfl)
noncomputable def e20 : Env := mkEnv [(63, true, FA fun a : TVec × List TEntry => p_impl_stateOK a.1 a.2)] [(64, (ownFn Try.prog e64 (c_impl_joinStates 109 110)))]
theorem e20_ok : EnvOK Try.prog e20 := mkEnv_ok (by
  intro p hp
  simp only [List.mem_cons, List.not_mem_nil, or_false] at hp
  subst hp
  exact o63) (by
  intro p hp
  simp only [List.mem_cons, List.not_mem_nil, or_false] at hp
  subst hp
  exact y64)
theorem w20_pur : ∀ c, opens Ap c = true → PurEnv e20 c := mkEnv_pur _ _ (by
  intro p hp
  simp only [List.mem_cons, List.not_mem_nil, or_false] at hp
  subst hp
  intro _; exact ownFn_app)
theorem u20_63 : e20 (2 * 63) = pureFn true (FA fun a : TVec × List TEntry => p_impl_stateOK a.1 a.2) := by
  unfold e20
  exact mkEnv_at (by rfl)
theorem x20_64 : k_impl_joinStates (e20 (2 * 64 + 1)) := by
  unfold e20
  rw [mkEnv_own (g := (ownFn Try.prog e64 (c_impl_joinStates 109 110))) (by rfl)]
  exact ko_impl_joinStates u64_109 x64_110
theorem o20 : PureOK Try.prog 20 true (FA fun a : TMulti × TMulti => p_impl_SetJoin a.1 a.2) := pure_tells e20_ok w20_pur (md := Md) (by kernel_rfl) (A := c_impl_SetJoin 63 64) (by kernel_rfl) (by
  rintro ⟨x, y⟩ b hb
  exact d_impl_SetJoin u20_63 x20_64 x y hb)
theorem y20 : FunOK Try.prog 20 (ownFn Try.prog e20 (c_impl_SetJoin 63 64)) := ownFn_ok e20_ok w20_pur (md := Md) (by kernel_rfl) (by kernel_rfl)
noncomputable def e111 : Env := mkEnv [] []
theorem e111_ok : EnvOK Try.prog e111 := mkEnv_ok (by intro p hp; cases hp) (by intro p hp; cases hp)
theorem w111_pur : ∀ c, opens Ap c = true → PurEnv e111 c := mkEnv_pur _ _ (by intro p hp; cases hp)
theorem o111 : PureOK Try.prog 111 true (FA fun a : List Int × List Int => p_laws_eqIntS a.1 a.2) := pure_tells e111_ok w111_pur (md := Md) (by kernel_rfl) (A := c_laws_eqIntS) (by kernel_rfl) (by
  rintro ⟨x, y⟩ b hb
  exact d_laws_eqIntS x y hb)
noncomputable def e65 : Env := mkEnv [(111, true, FA fun a : List Int × List Int => p_laws_eqIntS a.1 a.2)] []
theorem e65_ok : EnvOK Try.prog e65 := mkEnv_ok (by
  intro p hp
  simp only [List.mem_cons, List.not_mem_nil, or_false] at hp
  subst hp
  exact o111) (by intro p hp; cases hp)
theorem w65_pur : ∀ c, opens Ap c = true → PurEnv e65 c := mkEnv_pur _ _ (by intro p hp; cases hp)
theorem u65_111 : e65 (2 * 111) = pureFn true (FA fun a : List Int × List Int => p_laws_eqIntS a.1 a.2) := by
  unfold e65
  exact mkEnv_at (by rfl)
theorem o65 : PureOK Try.prog 65 true (FA fun a : TVec × TVec => p_laws_eqVector a.1 a.2) := pure_tells e65_ok w65_pur (md := Md) (by kernel_rfl) (A := c_laws_eqVector 111) (by kernel_rfl) (by
  rintro ⟨x, y⟩ b hb
  exact d_laws_eqVector u65_111 x y hb)
noncomputable def e95 : Env := mkEnv [] []
theorem e95_ok : EnvOK Try.prog e95 := mkEnv_ok (by intro p hp; cases hp) (by intro p hp; cases hp)
theorem w95_pur : ∀ c, opens Ap c = true → PurEnv e95 c := mkEnv_pur _ _ (by intro p hp; cases hp)
theorem o95 : PureOK Try.prog 95 true (FA fun a : TStamp × TStamp => p_laws_eqStamp a.1 a.2) := pure_tells e95_ok w95_pur (md := Md) (by kernel_rfl) (A := c_laws_eqStamp) (by kernel_rfl) (by
  rintro ⟨x, y⟩ b hb
  exact d_laws_eqStamp x y hb)
noncomputable def e112 : Env := mkEnv [(95, true, FA fun a : TStamp × TStamp => p_laws_eqStamp a.1 a.2)] []
theorem e112_ok : EnvOK Try.prog e112 := mkEnv_ok (by
  intro p hp
  simp only [List.mem_cons, List.not_mem_nil, or_false] at hp
  subst hp
  exact o95) (by intro p hp; cases hp)
theorem w112_pur : ∀ c, opens Ap c = true → PurEnv e112 c := mkEnv_pur _ _ (by intro p hp; cases hp)
theorem u112_95 : e112 (2 * 95) = pureFn true (FA fun a : TStamp × TStamp => p_laws_eqStamp a.1 a.2) := by
  unfold e112
  exact mkEnv_at (by rfl)
theorem o112 : PureOK Try.prog 112 true (FA fun a : TEntry × TEntry => p_laws_eqEntry a.1 a.2) := pure_tells e112_ok w112_pur (md := Md) (by kernel_rfl) (A := c_laws_eqEntry 95) (by kernel_rfl) (by
  rintro ⟨x, y⟩ b hb
  exact d_laws_eqEntry u112_95 x y hb)
noncomputable def e66 : Env := mkEnv [(112, true, FA fun a : TEntry × TEntry => p_laws_eqEntry a.1 a.2)] []
theorem e66_ok : EnvOK Try.prog e66 := mkEnv_ok (by
  intro p hp
  simp only [List.mem_cons, List.not_mem_nil, or_false] at hp
  subst hp
  exact o112) (by intro p hp; cases hp)
theorem w66_pur : ∀ c, opens Ap c = true → PurEnv e66 c := mkEnv_pur _ _ (by intro p hp; cases hp)
theorem u66_112 : e66 (2 * 112) = pureFn true (FA fun a : TEntry × TEntry => p_laws_eqEntry a.1 a.2) := by
  unfold e66
  exact mkEnv_at (by rfl)
theorem o66 : PureOK Try.prog 66 true (FA fun a : List TEntry × List TEntry => p_laws_eqEntryS a.1 a.2) := pure_tells e66_ok w66_pur (md := Md) (by kernel_rfl) (A := c_laws_eqEntryS 112) (by kernel_rfl) (by
  rintro ⟨x, y⟩ b hb
  exact d_laws_eqEntryS u66_112 x y hb)
noncomputable def e21 : Env := mkEnv [(65, true, FA fun a : TVec × TVec => p_laws_eqVector a.1 a.2), (66, true, FA fun a : List TEntry × List TEntry => p_laws_eqEntryS a.1 a.2)] []
theorem e21_ok : EnvOK Try.prog e21 := mkEnv_ok (by
  intro p hp
  simp only [List.mem_cons, List.not_mem_nil, or_false] at hp
  rcases hp with rfl | rfl
  · exact o65
  · exact o66) (by intro p hp; cases hp)
theorem w21_pur : ∀ c, opens Ap c = true → PurEnv e21 c := mkEnv_pur _ _ (by intro p hp; cases hp)
theorem u21_65 : e21 (2 * 65) = pureFn true (FA fun a : TVec × TVec => p_laws_eqVector a.1 a.2) := by
  unfold e21
  exact mkEnv_at (by rfl)
theorem u21_66 : e21 (2 * 66) = pureFn true (FA fun a : List TEntry × List TEntry => p_laws_eqEntryS a.1 a.2) := by
  unfold e21
  exact mkEnv_at (by rfl)
theorem o21 : PureOK Try.prog 21 true (FA fun a : TMulti × TMulti => p_laws_eqSet a.1 a.2) := pure_tells e21_ok w21_pur (md := Md) (by kernel_rfl) (A := c_laws_eqSet 65 66) (by kernel_rfl) (by
  rintro ⟨x, y⟩ b hb
  exact d_laws_eqSet u21_65 u21_66 x y hb)
noncomputable def e113 : Env := mkEnv [] []
theorem e113_ok : EnvOK Try.prog e113 := mkEnv_ok (by intro p hp; cases hp) (by intro p hp; cases hp)
theorem w113_pur : ∀ c, opens Ap c = true → PurEnv e113 c := mkEnv_pur _ _ (by intro p hp; cases hp)
theorem y113 : FunOK Try.prog 113 (runIn Try.prog e113 (c_laws_markIntS)) := runIn_ok e113_ok w113_pur (md := Md) (by kernel_rfl) (by kernel_rfl)
noncomputable def e67 : Env := mkEnv [] [(113, (runIn Try.prog e113 (c_laws_markIntS)))]
theorem e67_ok : EnvOK Try.prog e67 := mkEnv_ok (by intro p hp; cases hp) (by
  intro p hp
  simp only [List.mem_cons, List.not_mem_nil, or_false] at hp
  subst hp
  exact y113)
theorem w67_pur : ∀ c, opens Ap c = true → PurEnv e67 c := mkEnv_pur _ _ (by
  intro p hp
  simp only [List.mem_cons, List.not_mem_nil, or_false] at hp
  subst hp
  intro h; exact absurd h (by rw [show Ap 113 = false from rfl]; exact Bool.false_ne_true))
theorem x67_113 : k_laws_markIntS (e67 (2 * 113 + 1)) := by
  unfold e67
  rw [mkEnv_own (g := (runIn Try.prog e113 (c_laws_markIntS))) (by rfl)]
  exact ko_laws_markIntS
theorem y67 : FunOK Try.prog 67 (runIn Try.prog e67 (c_laws_markVector 113)) := runIn_ok e67_ok w67_pur (md := Md) (by kernel_rfl) (by kernel_rfl)
noncomputable def e72 : Env := mkEnv [] []
theorem e72_ok : EnvOK Try.prog e72 := mkEnv_ok (by intro p hp; cases hp) (by intro p hp; cases hp)
theorem w72_pur : ∀ c, opens Ap c = true → PurEnv e72 c := mkEnv_pur _ _ (by intro p hp; cases hp)
theorem o72 : PureOK Try.prog 72 true (FA fun a : Int => p_laws_markText a) := pure_tells e72_ok w72_pur (md := Md) (by kernel_rfl) (A := c_laws_markText) (by kernel_rfl) (by
  rintro x b hb
  exact d_laws_markText x hb)
noncomputable def e68 : Env := mkEnv [(72, true, FA fun a : Int => p_laws_markText a)] []
theorem e68_ok : EnvOK Try.prog e68 := mkEnv_ok (by
  intro p hp
  simp only [List.mem_cons, List.not_mem_nil, or_false] at hp
  subst hp
  exact o72) (by intro p hp; cases hp)
theorem w68_pur : ∀ c, opens Ap c = true → PurEnv e68 c := mkEnv_pur _ _ (by intro p hp; cases hp)
theorem u68_72 : e68 (2 * 72) = pureFn true (FA fun a : Int => p_laws_markText a) := by
  unfold e68
  exact mkEnv_at (by rfl)
theorem y68 : FunOK Try.prog 68 (runIn Try.prog e68 (c_laws_markEntryS 72)) := runIn_ok e68_ok w68_pur (md := Md) (by kernel_rfl) (by kernel_rfl)
noncomputable def e22 : Env := mkEnv [] [(67, (runIn Try.prog e67 (c_laws_markVector 113))), (68, (runIn Try.prog e68 (c_laws_markEntryS 72)))]
theorem e22_ok : EnvOK Try.prog e22 := mkEnv_ok (by intro p hp; cases hp) (by
  intro p hp
  simp only [List.mem_cons, List.not_mem_nil, or_false] at hp
  rcases hp with rfl | rfl
  · exact y67
  · exact y68)
theorem w22_pur : ∀ c, opens Ap c = true → PurEnv e22 c := mkEnv_pur _ _ (by
  intro p hp
  simp only [List.mem_cons, List.not_mem_nil, or_false] at hp
  rcases hp with rfl | rfl
  · intro h; exact absurd h (by rw [show Ap 67 = false from rfl]; exact Bool.false_ne_true)
  · intro h; exact absurd h (by rw [show Ap 68 = false from rfl]; exact Bool.false_ne_true))
theorem x22_67 : k_laws_markVector (e22 (2 * 67 + 1)) := by
  unfold e22
  rw [mkEnv_own (g := (runIn Try.prog e67 (c_laws_markVector 113))) (by rfl)]
  exact ko_laws_markVector x67_113
theorem x22_68 : k_laws_markEntryS (e22 (2 * 68 + 1)) := by
  unfold e22
  rw [mkEnv_own (g := (runIn Try.prog e68 (c_laws_markEntryS 72))) (by rfl)]
  exact ko_laws_markEntryS u68_72
theorem y22 : FunOK Try.prog 22 (runIn Try.prog e22 (c_laws_markSet 67 68)) := runIn_ok e22_ok w22_pur (md := Md) (by kernel_rfl) (by kernel_rfl)
noncomputable def e114 : Env := mkEnv [] []
theorem e114_ok : EnvOK Try.prog e114 := mkEnv_ok (by intro p hp; cases hp) (by intro p hp; cases hp)
theorem w114_pur : ∀ c, opens Ap c = true → PurEnv e114 c := mkEnv_pur _ _ (by intro p hp; cases hp)
theorem o114 : PureOK Try.prog 114 true (FA fun a : List Int × Int => p_laws_heldIntS a.1 a.2) := pure_tells e114_ok w114_pur (md := Md) (by kernel_rfl) (A := c_laws_heldIntS) (by kernel_rfl) (by
  rintro ⟨x, y⟩ b hb
  exact d_laws_heldIntS x y hb)
noncomputable def e69 : Env := mkEnv [(114, true, FA fun a : List Int × Int => p_laws_heldIntS a.1 a.2)] []
theorem e69_ok : EnvOK Try.prog e69 := mkEnv_ok (by
  intro p hp
  simp only [List.mem_cons, List.not_mem_nil, or_false] at hp
  subst hp
  exact o114) (by intro p hp; cases hp)
theorem w69_pur : ∀ c, opens Ap c = true → PurEnv e69 c := mkEnv_pur _ _ (by intro p hp; cases hp)
theorem u69_114 : e69 (2 * 114) = pureFn true (FA fun a : List Int × Int => p_laws_heldIntS a.1 a.2) := by
  unfold e69
  exact mkEnv_at (by rfl)
theorem o69 : PureOK Try.prog 69 true (FA fun a : TVec × Int => p_laws_heldVector a.1 a.2) := pure_tells e69_ok w69_pur (md := Md) (by kernel_rfl) (A := c_laws_heldVector 114) (by kernel_rfl) (by
  rintro ⟨x, y⟩ b hb
  exact d_laws_heldVector u69_114 x y hb)
noncomputable def e70 : Env := mkEnv [(72, true, FA fun a : Int => p_laws_markText a)] []
theorem e70_ok : EnvOK Try.prog e70 := mkEnv_ok (by
  intro p hp
  simp only [List.mem_cons, List.not_mem_nil, or_false] at hp
  subst hp
  exact o72) (by intro p hp; cases hp)
theorem w70_pur : ∀ c, opens Ap c = true → PurEnv e70 c := mkEnv_pur _ _ (by intro p hp; cases hp)
theorem u70_72 : e70 (2 * 72) = pureFn true (FA fun a : Int => p_laws_markText a) := by
  unfold e70
  exact mkEnv_at (by rfl)
theorem o70 : PureOK Try.prog 70 true (FA fun a : List TEntry × Int => p_laws_heldEntryS a.1 a.2) := pure_tells e70_ok w70_pur (md := Md) (by kernel_rfl) (A := c_laws_heldEntryS 72) (by kernel_rfl) (by
  rintro ⟨x, y⟩ b hb
  exact d_laws_heldEntryS u70_72 x y hb)
noncomputable def e23 : Env := mkEnv [(69, true, FA fun a : TVec × Int => p_laws_heldVector a.1 a.2), (70, true, FA fun a : List TEntry × Int => p_laws_heldEntryS a.1 a.2)] []
theorem e23_ok : EnvOK Try.prog e23 := mkEnv_ok (by
  intro p hp
  simp only [List.mem_cons, List.not_mem_nil, or_false] at hp
  rcases hp with rfl | rfl
  · exact o69
  · exact o70) (by intro p hp; cases hp)
theorem w23_pur : ∀ c, opens Ap c = true → PurEnv e23 c := mkEnv_pur _ _ (by intro p hp; cases hp)
theorem u23_69 : e23 (2 * 69) = pureFn true (FA fun a : TVec × Int => p_laws_heldVector a.1 a.2) := by
  unfold e23
  exact mkEnv_at (by rfl)
theorem u23_70 : e23 (2 * 70) = pureFn true (FA fun a : List TEntry × Int => p_laws_heldEntryS a.1 a.2) := by
  unfold e23
  exact mkEnv_at (by rfl)
theorem o23 : PureOK Try.prog 23 true (FA fun a : TMulti × Int => p_laws_heldSet a.1 a.2) := pure_tells e23_ok w23_pur (md := Md) (by kernel_rfl) (A := c_laws_heldSet 69 70) (by kernel_rfl) (by
  rintro ⟨x, y⟩ b hb
  exact d_laws_heldSet u23_69 u23_70 x y hb)
noncomputable def e4 : Env := mkEnv [(17, true, FA fun a : TMulti × Int => p_laws_szSet a.1 a.2), (19, true, FA fun a : TMulti => p_laws_toSet a), (18, false, FA fun a : TMulti × TMulti => p_spec_SetJoin a.1 a.2), (21, true, FA fun a : TMulti × TMulti => p_laws_eqSet a.1 a.2), (23, true, FA fun a : TMulti × Int => p_laws_heldSet a.1 a.2), (20, true, FA fun a : TMulti × TMulti => p_impl_SetJoin a.1 a.2)] [(19, (ownFn Try.prog e19 (c_laws_toSet 61 62))), (20, (ownFn Try.prog e20 (c_impl_SetJoin 63 64))), (22, (runIn Try.prog e22 (c_laws_markSet 67 68)))]
theorem e4_ok : EnvOK Try.prog e4 := mkEnv_ok (by
  intro p hp
  simp only [List.mem_cons, List.not_mem_nil, or_false] at hp
  rcases hp with rfl | rfl | rfl | rfl | rfl | rfl
  · exact o17
  · exact o19
  · exact o18
  · exact o21
  · exact o23
  · exact o20) (by
  intro p hp
  simp only [List.mem_cons, List.not_mem_nil, or_false] at hp
  rcases hp with rfl | rfl | rfl
  · exact y19
  · exact y20
  · exact y22)
theorem w4_pur : ∀ c, opens ApL c = true → PurEnv e4 c := mkEnv_pur _ _ (by
  intro p hp
  simp only [List.mem_cons, List.not_mem_nil, or_false] at hp
  rcases hp with rfl | rfl | rfl
  · intro h; exact absurd h (by rw [show ApL 19 = false from rfl]; exact Bool.false_ne_true)
  · intro h; exact absurd h (by rw [show ApL 20 = false from rfl]; exact Bool.false_ne_true)
  · intro h; exact absurd h (by rw [show ApL 22 = false from rfl]; exact Bool.false_ne_true))
theorem u4_17 : e4 (2 * 17) = pureFn true (FA fun a : TMulti × Int => p_laws_szSet a.1 a.2) := by
  unfold e4
  exact mkEnv_at (by rfl)
theorem u4_19 : e4 (2 * 19) = pureFn true (FA fun a : TMulti => p_laws_toSet a) := by
  unfold e4
  exact mkEnv_at (by rfl)
theorem u4_18 : e4 (2 * 18) = pureFn false (FA fun a : TMulti × TMulti => p_spec_SetJoin a.1 a.2) := by
  unfold e4
  exact mkEnv_at (by rfl)
theorem u4_21 : e4 (2 * 21) = pureFn true (FA fun a : TMulti × TMulti => p_laws_eqSet a.1 a.2) := by
  unfold e4
  exact mkEnv_at (by rfl)
theorem u4_23 : e4 (2 * 23) = pureFn true (FA fun a : TMulti × Int => p_laws_heldSet a.1 a.2) := by
  unfold e4
  exact mkEnv_at (by rfl)
theorem u4_20 : e4 (2 * 20) = pureFn true (FA fun a : TMulti × TMulti => p_impl_SetJoin a.1 a.2) := by
  unfold e4
  exact mkEnv_at (by rfl)
theorem x4_19 : k_laws_toSet (e4 (2 * 19 + 1)) := by
  unfold e4
  rw [mkEnv_own (g := (ownFn Try.prog e19 (c_laws_toSet 61 62))) (by rfl)]
  exact ko_laws_toSet x19_61 x19_62
theorem x4_20 : k_impl_SetJoin (e4 (2 * 20 + 1)) := by
  unfold e4
  rw [mkEnv_own (g := (ownFn Try.prog e20 (c_impl_SetJoin 63 64))) (by rfl)]
  exact ko_impl_SetJoin u20_63 x20_64
theorem x4_22 : k_laws_markSet (e4 (2 * 22 + 1)) := by
  unfold e4
  rw [mkEnv_own (g := (runIn Try.prog e22 (c_laws_markSet 67 68))) (by rfl)]
  exact ko_laws_markSet x22_67 x22_68
theorem law : LawOK Try.prog 4 [.st [.st [.sl 8 (.int .i64)], .sl 32 (.st [.st [.int .i64, .int .i64], .str])], .st [.st [.sl 8 (.int .i64)], .sl 32 (.st [.st [.int .i64, .int .i64], .str])]] := law_of_run e4_ok w4_pur (md := MdL) (A := c_laws_FnExactSetJoin 17 19 18 20 21 22 23) (by kernel_rfl) (by
  intro xs hx
  cases hx with
  | cons h0 hx =>
  cases hx with
  | cons h1 hx =>
  cases hx
  obtain ⟨a0, rfl, k0⟩ := fit_TMulti h0
  obtain ⟨a1, rfl, k1⟩ := fit_TMulti h1
  exact d_laws_FnExactSetJoin u4_17 u4_19 u4_18 u4_21 u4_23 u4_20 x4_19 x4_20 x4_22 a0 a1 (plain_SetJoin a0 a1 k0 k1))
theorem own : ownKnob Try.prog.godebug = none := by kernel_rfl
theorem laidOut : laidOutB Try.prog = true := by kernel_rfl
set_option maxRecDepth 100000 in
theorem lifted (os : Os) (started : os.Started) (H : Type) (enc : TypeId × Value → H) :
    ReturnsInHanded {} Try.checked os 4 .any (Rows.fnExactSetJoinSpec.pre6 enc Try.prog Try.f4 Rows.fnExactSetJoinRow.domain false) (Rows.fnExactSetJoinSpec.post enc Try.prog Try.f4 false true false false) := by
  refine returnsInHanded_of_change_sized (C := Try.checked) own started (by kernel_rfl) Try.func4
    (ChangeSpec.witness6 (enc := enc) (C := Try.checked) false ⟨#[], #[.agg #[.slice none 0 0, .slice none 0 0], .agg #[.slice none 0 0, .slice none 0 0]], []⟩ 8 (by kernel_rfl) (by kernel_rfl) (by kernel_rfl) (by kernel_rfl)) ?_
  intro W base args ds gs before hval hW hcnd hsz _
  refine law_contract (n := 8) (tb := 4) (shs := [.st [.st [.sl 8 (.int .i64)], .sl 32 (.st [.st [.int .i64, .int .i64], .str])], .st [.st [.sl 8 (.int .i64)], .sl 32 (.st [.st [.int .i64, .int .i64], .str])]]) laidOut rfl ?_ (by kernel_rfl) Try.underlying4 (by kernel_rfl) (by kernel_rfl) law W base args ds gs before hval hW hsz
  intro ds hds
  have h1 : ds.length = 2 := hds
  match ds, h1 with
  | [d0, d1], _ => rfl
theorem over : Rows.fnExactSetJoinRow.holds Try.pinned (OpenSpec.ofChange Rows.fnExactSetJoinSpec) :=
  OpenClaim.holds_of_wide 4 Try.f4 rfl rfl rfl rfl rfl rfl rfl ⟨rfl, rfl, rfl, rfl, rfl⟩ rfl rfl rfl rfl rfl (by kernel_rfl) Try.func4 (by kernel_rfl)
    (of_decide_eq_true (by kernel_rfl)) (by unfold Func.isWrapper; first | (rw [if_pos (by decide +kernel)]; kernel_rfl) | (rw [if_neg (by decide +kernel)]; exact ⟨rfl, rfl⟩))
    (fun os started H enc _ => lifted os started H enc)
theorem proved : Rows.FnExactSetJoinSaid := over
#print axioms proved
end Go.Proofs.Ytjnkmdphjopboab.RFnExactSetJoin
namespace Go.Proofs.Ytjnkmdphjopboab
/-- The row, under a short name, for the claim. -/
theorem fnExactSetJoin_holds : Rows.FnExactSetJoinSaid := RFnExactSetJoin.proved
end Go.Proofs.Ytjnkmdphjopboab
