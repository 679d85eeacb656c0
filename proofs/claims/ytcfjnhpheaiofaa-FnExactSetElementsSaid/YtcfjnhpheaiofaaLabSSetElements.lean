/- The law FnExactSetElements: its functions' contracts, its run, its row. No condition. -/
import Derived.Test.YtcfjnhpheaiofaaRows
import Derived.Test.YtcfjnhpheaiofaaLabPSetElements
import Derived.WalkKit
import Derived.Shelf.Sort.Plain
import Derived.Shelf.Slices.In.SortNone2
import Derived.ProofKit
set_option linter.unusedVariables false
namespace Go.Proofs.Ytcfjnhpheaiofaa.RFnExactSetElements
open Go.AM
open Pic (enc dec dec_enc dec_sub)
def Md : Modes := fun f => if f == 5 then 4 else if f == 6 then 1 else if f == 7 then 1 else if f == 10 then 2 else if f == 11 then 2 else if f == 16 then 1 else if f == 17 then 1 else if f == 19 then 2 else if f == 22 then 2 else if f == 23 then 2 else if f == 27 then 4 else if f == 28 then 4 else if f == 29 then 4 else if f == 30 then 1 else if f == 38 then 2 else 0
def Ap : Nat → Bool := fun f => Md f == 1
def MdL : Modes := fun f => if Md f == 1 then 3 else Md f
def ApL : Nat → Bool := fun f => MdL f == 1
noncomputable def e25 : Env := mkEnv [] []
theorem e25_ok : EnvOK Try.prog e25 := mkEnv_ok (by intro p hp; cases hp) (by intro p hp; cases hp)
theorem w25_pur : ∀ c, opens Ap c = true → PurEnv e25 c := mkEnv_pur _ _ (by intro p hp; cases hp)
theorem o25 : PureOK Try.prog 25 true (FA fun a : List Int × Int => p_laws_szIntS a.1 a.2) := pure_tells e25_ok w25_pur (md := Md) (by kernel_rfl) (A := c_laws_szIntS) (by kernel_rfl) (by
  rintro ⟨x, y⟩ b hb
  exact d_laws_szIntS x y hb)
noncomputable def e13 : Env := mkEnv [(25, true, FA fun a : List Int × Int => p_laws_szIntS a.1 a.2)] []
theorem e13_ok : EnvOK Try.prog e13 := mkEnv_ok (by
  intro p hp
  simp only [List.mem_cons, List.not_mem_nil, or_false] at hp
  subst hp
  exact o25) (by intro p hp; cases hp)
theorem w13_pur : ∀ c, opens Ap c = true → PurEnv e13 c := mkEnv_pur _ _ (by intro p hp; cases hp)
theorem u13_25 : e13 (2 * 25) = pureFn true (FA fun a : List Int × Int => p_laws_szIntS a.1 a.2) := by
  unfold e13
  exact mkEnv_at (by rfl)
theorem o13 : PureOK Try.prog 13 true (FA fun a : TVec × Int => p_laws_szVector a.1 a.2) := pure_tells e13_ok w13_pur (md := Md) (by kernel_rfl) (A := c_laws_szVector 25) (by kernel_rfl) (by
  rintro ⟨x, y⟩ b hb
  exact d_laws_szVector u13_25 x y hb)
noncomputable def e26 : Env := mkEnv [] []
theorem e26_ok : EnvOK Try.prog e26 := mkEnv_ok (by intro p hp; cases hp) (by intro p hp; cases hp)
theorem w26_pur : ∀ c, opens Ap c = true → PurEnv e26 c := mkEnv_pur _ _ (by intro p hp; cases hp)
theorem o26 : PureOK Try.prog 26 true (FA fun a : TEntry × Int => p_laws_szEntry a.1 a.2) := pure_tells e26_ok w26_pur (md := Md) (by kernel_rfl) (A := c_laws_szEntry) (by kernel_rfl) (by
  rintro ⟨x, y⟩ b hb
  exact d_laws_szEntry x y hb)
noncomputable def e14 : Env := mkEnv [(26, true, FA fun a : TEntry × Int => p_laws_szEntry a.1 a.2)] []
theorem e14_ok : EnvOK Try.prog e14 := mkEnv_ok (by
  intro p hp
  simp only [List.mem_cons, List.not_mem_nil, or_false] at hp
  subst hp
  exact o26) (by intro p hp; cases hp)
theorem w14_pur : ∀ c, opens Ap c = true → PurEnv e14 c := mkEnv_pur _ _ (by intro p hp; cases hp)
theorem u14_26 : e14 (2 * 26) = pureFn true (FA fun a : TEntry × Int => p_laws_szEntry a.1 a.2) := by
  unfold e14
  exact mkEnv_at (by rfl)
theorem o14 : PureOK Try.prog 14 true (FA fun a : List TEntry × Int => p_laws_szEntryS a.1 a.2) := pure_tells e14_ok w14_pur (md := Md) (by kernel_rfl) (A := c_laws_szEntryS 26) (by kernel_rfl) (by
  rintro ⟨x, y⟩ b hb
  exact d_laws_szEntryS u14_26 x y hb)
noncomputable def e4 : Env := mkEnv [(13, true, FA fun a : TVec × Int => p_laws_szVector a.1 a.2), (14, true, FA fun a : List TEntry × Int => p_laws_szEntryS a.1 a.2)] []
theorem e4_ok : EnvOK Try.prog e4 := mkEnv_ok (by
  intro p hp
  simp only [List.mem_cons, List.not_mem_nil, or_false] at hp
  rcases hp with rfl | rfl
  · exact o13
  · exact o14) (by intro p hp; cases hp)
theorem w4_pur : ∀ c, opens Ap c = true → PurEnv e4 c := mkEnv_pur _ _ (by intro p hp; cases hp)
theorem u4_13 : e4 (2 * 13) = pureFn true (FA fun a : TVec × Int => p_laws_szVector a.1 a.2) := by
  unfold e4
  exact mkEnv_at (by rfl)
theorem u4_14 : e4 (2 * 14) = pureFn true (FA fun a : List TEntry × Int => p_laws_szEntryS a.1 a.2) := by
  unfold e4
  exact mkEnv_at (by rfl)
theorem o4 : PureOK Try.prog 4 true (FA fun a : TMulti × Int => p_laws_szSet a.1 a.2) := pure_tells e4_ok w4_pur (md := Md) (by kernel_rfl) (A := c_laws_szSet 13 14) (by kernel_rfl) (by
  rintro ⟨x, y⟩ b hb
  exact d_laws_szSet u4_13 u4_14 x y hb)
noncomputable def e30 : Env := mkEnv [] []
theorem e30_ok : EnvOK Try.prog e30 := mkEnv_ok (by intro p hp; cases hp) (by intro p hp; cases hp)
theorem w30_pur : ∀ c, opens Ap c = true → PurEnv e30 c := mkEnv_pur _ _ (by intro p hp; cases hp)
theorem y30 : FunOK Try.prog 30 (ownFn Try.prog e30 (c_laws_toIntS)) := ownFn_ok e30_ok w30_pur (md := Md) (by kernel_rfl) (by kernel_rfl)
noncomputable def e16 : Env := mkEnv [] [(30, (ownFn Try.prog e30 (c_laws_toIntS)))]
theorem e16_ok : EnvOK Try.prog e16 := mkEnv_ok (by intro p hp; cases hp) (by
  intro p hp
  simp only [List.mem_cons, List.not_mem_nil, or_false] at hp
  subst hp
  exact y30)
theorem w16_pur : ∀ c, opens Ap c = true → PurEnv e16 c := mkEnv_pur _ _ (by
  intro p hp
  simp only [List.mem_cons, List.not_mem_nil, or_false] at hp
  subst hp
  intro _; exact ownFn_app)
theorem x16_30 : k_laws_toIntS (e16 (2 * 30 + 1)) := by
  unfold e16
  rw [mkEnv_own (g := (ownFn Try.prog e30 (c_laws_toIntS))) (by rfl)]
  exact ko_laws_toIntS
theorem y16 : FunOK Try.prog 16 (ownFn Try.prog e16 (c_laws_toVector 30)) := ownFn_ok e16_ok w16_pur (md := Md) (by kernel_rfl) (by kernel_rfl)
noncomputable def e39 : Env := mkEnv [] []
theorem e39_ok : EnvOK Try.prog e39 := mkEnv_ok (by intro p hp; cases hp) (by intro p hp; cases hp)
theorem w39_pur : ∀ c, opens Ap c = true → PurEnv e39 c := mkEnv_pur _ _ (by intro p hp; cases hp)
theorem o39 : PureOK Try.prog 39 true (FA fun a : TStamp => p_laws_toStamp a) := pure_tells e39_ok w39_pur (md := Md) (by kernel_rfl) (A := c_laws_toStamp) (by kernel_rfl) (by
  rintro x b hb
  exact d_laws_toStamp x hb)
noncomputable def e31 : Env := mkEnv [(39, true, FA fun a : TStamp => p_laws_toStamp a)] []
theorem e31_ok : EnvOK Try.prog e31 := mkEnv_ok (by
  intro p hp
  simp only [List.mem_cons, List.not_mem_nil, or_false] at hp
  subst hp
  exact o39) (by intro p hp; cases hp)
theorem w31_pur : ∀ c, opens Ap c = true → PurEnv e31 c := mkEnv_pur _ _ (by intro p hp; cases hp)
theorem u31_39 : e31 (2 * 39) = pureFn true (FA fun a : TStamp => p_laws_toStamp a) := by
  unfold e31
  exact mkEnv_at (by rfl)
theorem o31 : PureOK Try.prog 31 true (FA fun a : TEntry => p_laws_toEntry a) := pure_tells e31_ok w31_pur (md := Md) (by kernel_rfl) (A := c_laws_toEntry 39) (by kernel_rfl) (by
  rintro x b hb
  exact d_laws_toEntry u31_39 x hb)
noncomputable def e17 : Env := mkEnv [(31, true, FA fun a : TEntry => p_laws_toEntry a)] []
theorem e17_ok : EnvOK Try.prog e17 := mkEnv_ok (by
  intro p hp
  simp only [List.mem_cons, List.not_mem_nil, or_false] at hp
  subst hp
  exact o31) (by intro p hp; cases hp)
theorem w17_pur : ∀ c, opens Ap c = true → PurEnv e17 c := mkEnv_pur _ _ (by intro p hp; cases hp)
theorem u17_31 : e17 (2 * 31) = pureFn true (FA fun a : TEntry => p_laws_toEntry a) := by
  unfold e17
  exact mkEnv_at (by rfl)
theorem y17 : FunOK Try.prog 17 (ownFn Try.prog e17 (c_laws_toEntryS 31)) := ownFn_ok e17_ok w17_pur (md := Md) (by kernel_rfl) (by kernel_rfl)
noncomputable def e6 : Env := mkEnv [] [(16, (ownFn Try.prog e16 (c_laws_toVector 30))), (17, (ownFn Try.prog e17 (c_laws_toEntryS 31)))]
theorem e6_ok : EnvOK Try.prog e6 := mkEnv_ok (by intro p hp; cases hp) (by
  intro p hp
  simp only [List.mem_cons, List.not_mem_nil, or_false] at hp
  rcases hp with rfl | rfl
  · exact y16
  · exact y17)
theorem w6_pur : ∀ c, opens Ap c = true → PurEnv e6 c := mkEnv_pur _ _ (by
  intro p hp
  simp only [List.mem_cons, List.not_mem_nil, or_false] at hp
  rcases hp with rfl | rfl
  · intro _; exact ownFn_app
  · intro _; exact ownFn_app)
theorem x6_16 : k_laws_toVector (e6 (2 * 16 + 1)) := by
  unfold e6
  rw [mkEnv_own (g := (ownFn Try.prog e16 (c_laws_toVector 30))) (by rfl)]
  exact ko_laws_toVector x16_30
theorem x6_17 : k_laws_toEntryS (e6 (2 * 17 + 1)) := by
  unfold e6
  rw [mkEnv_own (g := (ownFn Try.prog e17 (c_laws_toEntryS 31))) (by rfl)]
  exact ko_laws_toEntryS u17_31
theorem o6 : PureOK Try.prog 6 true (FA fun a : TMulti => p_laws_toSet a) := pure_tells e6_ok w6_pur (md := Md) (by kernel_rfl) (A := c_laws_toSet 16 17) (by kernel_rfl) (by
  rintro x b hb
  exact d_laws_toSet x6_16 x6_17 x hb)
theorem y6 : FunOK Try.prog 6 (ownFn Try.prog e6 (c_laws_toSet 16 17)) := ownFn_ok e6_ok w6_pur (md := Md) (by kernel_rfl) (by kernel_rfl)
noncomputable def e27 : Env := mkEnv [] []
theorem e27_ok : EnvOK Try.prog e27 := mkEnv_ok (by intro p hp; cases hp) (by intro p hp; cases hp)
theorem w27_pur : ∀ c, opens Ap c = true → PurEnv e27 c := mkEnv_pur _ _ (by intro p hp; cases hp)
theorem o27 : PureOK Try.prog 27 true (FA fun a : TVec => p_spec_VecOK a) := pure_tells e27_ok w27_pur (md := Md) (by kernel_rfl) (A := c_spec_VecOK) (by kernel_rfl) (by
  rintro x b hb
  exact d_spec_VecOK x hb)
noncomputable def e28 : Env := mkEnv [] []
theorem e28_ok : EnvOK Try.prog e28 := mkEnv_ok (by intro p hp; cases hp) (by intro p hp; cases hp)
theorem w28_pur : ∀ c, opens Ap c = true → PurEnv e28 c := mkEnv_pur _ _ (by intro p hp; cases hp)
theorem o28 : PureOK Try.prog 28 true (FA fun a : TStamp => p_spec_StampOK a) := pure_tells e28_ok w28_pur (md := Md) (by kernel_rfl) (A := c_spec_StampOK) (by kernel_rfl) (by
  rintro x b hb
  exact d_spec_StampOK x hb)
noncomputable def e29 : Env := mkEnv [] []
theorem e29_ok : EnvOK Try.prog e29 := mkEnv_ok (by intro p hp; cases hp) (by intro p hp; cases hp)
theorem w29_pur : ∀ c, opens Ap c = true → PurEnv e29 c := mkEnv_pur _ _ (by intro p hp; cases hp)
theorem o29 : PureOK Try.prog 29 true (FA fun a : TStamp × TStamp => p_spec_StampLess a.1 a.2) := pure_tells e29_ok w29_pur (md := Md) (by kernel_rfl) (A := c_spec_StampLess) (by kernel_rfl) (by
  rintro ⟨x, y⟩ b hb
  exact d_spec_StampLess x y hb)
noncomputable def e15 : Env := mkEnv [(27, true, FA fun a : TVec => p_spec_VecOK a), (28, true, FA fun a : TStamp => p_spec_StampOK a), (29, true, FA fun a : TStamp × TStamp => p_spec_StampLess a.1 a.2)] []
theorem e15_ok : EnvOK Try.prog e15 := mkEnv_ok (by
  intro p hp
  simp only [List.mem_cons, List.not_mem_nil, or_false] at hp
  rcases hp with rfl | rfl | rfl
  · exact o27
  · exact o28
  · exact o29) (by intro p hp; cases hp)
theorem w15_pur : ∀ c, opens Ap c = true → PurEnv e15 c := mkEnv_pur _ _ (by intro p hp; cases hp)
theorem u15_27 : e15 (2 * 27) = pureFn true (FA fun a : TVec => p_spec_VecOK a) := by
  unfold e15
  exact mkEnv_at (by rfl)
theorem u15_28 : e15 (2 * 28) = pureFn true (FA fun a : TStamp => p_spec_StampOK a) := by
  unfold e15
  exact mkEnv_at (by rfl)
theorem u15_29 : e15 (2 * 29) = pureFn true (FA fun a : TStamp × TStamp => p_spec_StampLess a.1 a.2) := by
  unfold e15
  exact mkEnv_at (by rfl)
theorem o15 : PureOK Try.prog 15 true (FA fun a : TVec × List TEntry => p_spec_l03EntriesOK a.1 a.2) := pure_tells e15_ok w15_pur (md := Md) (by kernel_rfl) (A := c_spec_l03EntriesOK 27 28 29) (by kernel_rfl) (by
  rintro ⟨x, y⟩ b hb
  exact d_spec_l03EntriesOK u15_27 u15_28 u15_29 x y hb)
noncomputable def e5 : Env := mkEnv [(15, true, FA fun a : TVec × List TEntry => p_spec_l03EntriesOK a.1 a.2)] []
theorem e5_ok : EnvOK Try.prog e5 := mkEnv_ok (by
  intro p hp
  simp only [List.mem_cons, List.not_mem_nil, or_false] at hp
  subst hp
  exact o15) (by intro p hp; cases hp)
theorem w5_pur : ∀ c, opens Ap c = true → PurEnv e5 c := mkEnv_pur _ _ (by intro p hp; cases hp)
theorem u5_15 : e5 (2 * 15) = pureFn true (FA fun a : TVec × List TEntry => p_spec_l03EntriesOK a.1 a.2) := by
  unfold e5
  exact mkEnv_at (by rfl)
theorem o5 : PureOK Try.prog 5 true (FA fun a : TMulti => p_spec_SetElements a) := pure_tells e5_ok w5_pur (md := Md) (by kernel_rfl) (A := c_spec_SetElements 15) (by kernel_rfl) (by
  rintro x b hb
  exact d_spec_SetElements u5_15 x hb)
noncomputable def e32 : Env := mkEnv [] []
theorem e32_ok : EnvOK Try.prog e32 := mkEnv_ok (by intro p hp; cases hp) (by intro p hp; cases hp)
theorem w32_pur : ∀ c, opens Ap c = true → PurEnv e32 c := mkEnv_pur _ _ (by intro p hp; cases hp)
theorem o32 : PureOK Try.prog 32 true (FA fun a : TVec => p_impl_VecOK a) := pure_tells e32_ok w32_pur (md := Md) (by kernel_rfl) (A := c_impl_VecOK) (by kernel_rfl) (by
  rintro x b hb
  exact d_impl_VecOK x hb)
noncomputable def e40 : Env := mkEnv [] []
theorem e40_ok : EnvOK Try.prog e40 := mkEnv_ok (by intro p hp; cases hp) (by intro p hp; cases hp)
theorem w40_pur : ∀ c, opens Ap c = true → PurEnv e40 c := mkEnv_pur _ _ (by intro p hp; cases hp)
theorem o40 : PureOK Try.prog 40 true (FA fun a : Int => p_impl_isActor a) := pure_tells e40_ok w40_pur (md := Md) (by kernel_rfl) (A := c_impl_isActor) (by kernel_rfl) (by
  rintro x b hb
  exact d_impl_isActor x hb)
noncomputable def e33 : Env := mkEnv [(40, true, FA fun a : Int => p_impl_isActor a)] []
theorem e33_ok : EnvOK Try.prog e33 := mkEnv_ok (by
  intro p hp
  simp only [List.mem_cons, List.not_mem_nil, or_false] at hp
  subst hp
  exact o40) (by intro p hp; cases hp)
theorem w33_pur : ∀ c, opens Ap c = true → PurEnv e33 c := mkEnv_pur _ _ (by intro p hp; cases hp)
theorem u33_40 : e33 (2 * 40) = pureFn true (FA fun a : Int => p_impl_isActor a) := by
  unfold e33
  exact mkEnv_at (by rfl)
theorem o33 : PureOK Try.prog 33 true (FA fun a : TStamp => p_impl_StampOK a) := pure_tells e33_ok w33_pur (md := Md) (by kernel_rfl) (A := c_impl_StampOK 40) (by kernel_rfl) (by
  rintro x b hb
  exact d_impl_StampOK u33_40 x hb)
noncomputable def e34 : Env := mkEnv [] []
theorem e34_ok : EnvOK Try.prog e34 := mkEnv_ok (by intro p hp; cases hp) (by intro p hp; cases hp)
theorem w34_pur : ∀ c, opens Ap c = true → PurEnv e34 c := mkEnv_pur _ _ (by intro p hp; cases hp)
theorem o34 : PureOK Try.prog 34 true (FA fun a : TStamp × TStamp => p_impl_StampLess a.1 a.2) := pure_tells e34_ok w34_pur (md := Md) (by kernel_rfl) (A := c_impl_StampLess) (by kernel_rfl) (by
  rintro ⟨x, y⟩ b hb
  exact d_impl_StampLess x y hb)
noncomputable def e18 : Env := mkEnv [(32, true, FA fun a : TVec => p_impl_VecOK a), (33, true, FA fun a : TStamp => p_impl_StampOK a), (34, true, FA fun a : TStamp × TStamp => p_impl_StampLess a.1 a.2)] []
theorem e18_ok : EnvOK Try.prog e18 := mkEnv_ok (by
  intro p hp
  simp only [List.mem_cons, List.not_mem_nil, or_false] at hp
  rcases hp with rfl | rfl | rfl
  · exact o32
  · exact o33
  · exact o34) (by intro p hp; cases hp)
theorem w18_pur : ∀ c, opens Ap c = true → PurEnv e18 c := mkEnv_pur _ _ (by intro p hp; cases hp)
theorem u18_32 : e18 (2 * 32) = pureFn true (FA fun a : TVec => p_impl_VecOK a) := by
  unfold e18
  exact mkEnv_at (by rfl)
theorem u18_33 : e18 (2 * 33) = pureFn true (FA fun a : TStamp => p_impl_StampOK a) := by
  unfold e18
  exact mkEnv_at (by rfl)
theorem u18_34 : e18 (2 * 34) = pureFn true (FA fun a : TStamp × TStamp => p_impl_StampLess a.1 a.2) := by
  unfold e18
  exact mkEnv_at (by rfl)
theorem o18 : PureOK Try.prog 18 true (FA fun a : TVec × List TEntry => p_impl_stateOK a.1 a.2) := pure_tells e18_ok w18_pur (md := Md) (by kernel_rfl) (A := c_impl_stateOK 32 33 34) (by kernel_rfl) (by
  rintro ⟨x, y⟩ b hb
  exact d_impl_stateOK u18_32 u18_33 u18_34 x y hb)
def sort_ren : Go.Shelf.Ren := ⟨fun | 0 => 0 | 1 => 1 | 2 => 2 | 125 => 42 | 128 => 53 | 129 => 54 | 190 => 35 | 192 => 19 | 258 => 41 | 302 => 44 | 303 => 45 | 304 => 46 | 305 => 47 | 306 => 48 | 307 => 49 | 308 => 50 | 309 => 51 | 310 => 52 | 329 => 56 | 330 => 57 | 333 => 55 | 334 => 58 | 335 => 59 | 336 => 60 | 344 => 61 | 347 => 62 | 348 => 63 | 349 => 64 | 350 => 65 | 351 => 66 | 352 => 67 | 353 => 68 | 354 => 69 | 355 => 70 | 356 => 71 | 357 => 72 | 358 => 73 | 359 => 74 | 360 => 75 | 361 => 76 | 366 => 77 | n => n, fun | 0 => 0 | 1 => 1 | 2 => 2 | 3 => 3 | 4 => 4 | 5 => 5 | 6 => 6 | 7 => 7 | 8 => 8 | 9 => 9 | 10 => 10 | 11 => 11 | 12 => 12 | 13 => 13 | 14 => 14 | 15 => 15 | 16 => 16 | 17 => 17 | 18 => 18 | 19 => 19 | 20 => 20 | 21 => 21 | 22 => 80 | 28 => 22 | 30 => 57 | 31 => 29 | 34 => 67 | 37 => 69 | 46 => 74 | 47 => 73 | 51 => 85 | 52 => 84 | 53 => 87 | 54 => 86 | 80 => 98 | 81 => 104 | 83 => 56 | 100 => 51 | 101 => 37 | 104 => 94 | 111 => 71 | 127 => 108 | 131 => 82 | 135 => 72 | 164 => 113 | 182 => 76 | 183 => 77 | 188 => 75 | 189 => 78 | 190 => 79 | 191 => 81 | 192 => 83 | 218 => 88 | 219 => 89 | 220 => 90 | 222 => 92 | 224 => 91 | 225 => 93 | 228 => 95 | 229 => 96 | 231 => 97 | 238 => 99 | 239 => 100 | 240 => 101 | 241 => 102 | 242 => 103 | 243 => 105 | 244 => 106 | 245 => 107 | 246 => 109 | 247 => 110 | 248 => 111 | 249 => 112 | n => n, fun n => n⟩
theorem sort_lays : Go.Proofs.Lays.n192 Try.prog sort_ren where
  mixed := by kernel_rfl
  f125 := Try.func42.trans (congrArg some (by kernel_rfl))
  f128 := Try.func53.trans (congrArg some (by kernel_rfl))
  f129 := Try.func54.trans (congrArg some (by kernel_rfl))
  f190 := Try.func35.trans (congrArg some (by kernel_rfl))
  f192 := Try.func19.trans (congrArg some (by kernel_rfl))
  f258 := Try.func41.trans (congrArg some (by kernel_rfl))
  f302 := Try.func44.trans (congrArg some (by kernel_rfl))
  f303 := Try.func45.trans (congrArg some (by kernel_rfl))
  f304 := Try.func46.trans (congrArg some (by kernel_rfl))
  f305 := Try.func47.trans (congrArg some (by kernel_rfl))
  f306 := Try.func48.trans (congrArg some (by kernel_rfl))
  f307 := Try.func49.trans (congrArg some (by kernel_rfl))
  f308 := Try.func50.trans (congrArg some (by kernel_rfl))
  f309 := Try.func51.trans (congrArg some (by kernel_rfl))
  f310 := Try.func52.trans (congrArg some (by kernel_rfl))
  f329 := Try.func56.trans (congrArg some (by kernel_rfl))
  f330 := Try.func57.trans (congrArg some (by kernel_rfl))
  f333 := Try.func55.trans (congrArg some (by kernel_rfl))
  f334 := Try.func58.trans (congrArg some (by kernel_rfl))
  f335 := Try.func59.trans (congrArg some (by kernel_rfl))
  f336 := Try.func60.trans (congrArg some (by kernel_rfl))
  f344 := Try.func61.trans (congrArg some (by kernel_rfl))
  t0 := Try.underlying0
  a0 := Try.isAgg0
  z0 := Try.sizeOf0
  v0 := Try.zeroValue0
  t3 := Try.underlying3
  a3 := Try.isAgg3
  z3 := Try.sizeOf3
  v3 := Try.zeroValue3
  t4 := Try.underlying4
  a4 := Try.isAgg4
  z4 := Try.sizeOf4
  v4 := Try.zeroValue4
  t5 := Try.underlying5
  a5 := Try.isAgg5
  z5 := Try.sizeOf5
  v5 := Try.zeroValue5
  t9 := Try.underlying9
  a9 := Try.isAgg9
  z9 := Try.sizeOf9
  v9 := Try.zeroValue9
  t31 := Try.underlying29
  a31 := Try.isAgg29
  z31 := Try.sizeOf29
  v31 := Try.zeroValue29
  t46 := Try.underlying74
  a46 := Try.isAgg74
  z46 := Try.sizeOf74
  v46 := Try.zeroValue74
  t51 := Try.underlying85
  a51 := Try.isAgg85
  z51 := Try.sizeOf85
  v51 := Try.zeroValue85
  t53 := Try.underlying87
  a53 := Try.isAgg87
  z53 := Try.sizeOf87
  v53 := Try.zeroValue87
  t131 := Try.underlying82
  a131 := Try.isAgg82
  z131 := Try.sizeOf82
  v131 := Try.zeroValue82
  t182 := Try.underlying76
  a182 := Try.isAgg76
  z182 := Try.sizeOf76
  v182 := Try.zeroValue76
  t183 := Try.underlying77
  a183 := Try.isAgg77
  z183 := Try.sizeOf77
  v183 := Try.zeroValue77
  t218 := Try.underlying88
  a218 := Try.isAgg88
  z218 := Try.sizeOf88
  v218 := Try.zeroValue88
  t222 := Try.underlying92
  a222 := Try.isAgg92
  z222 := Try.sizeOf92
  v222 := Try.zeroValue92
  t228 := Try.underlying95
  a228 := Try.isAgg95
  z228 := Try.sizeOf95
  v228 := Try.zeroValue95
  t229 := Try.underlying96
  a229 := Try.isAgg96
  z229 := Try.sizeOf96
  v229 := Try.zeroValue96
theorem y19 : FunOK Try.prog 19 sortFn := sortFn_ok (by kernel_rfl) (fun blk off cap ss w h1 h2 h3 => Any.sort_Strings sort_lays blk off cap ss w h1 h2 h3) (fun p cap w => Any.sort_Strings_none sort_lays p cap w)
noncomputable def e7 : Env := mkEnv [(18, true, FA fun a : TVec × List TEntry => p_impl_stateOK a.1 a.2)] [(19, sortFn)]
theorem e7_ok : EnvOK Try.prog e7 := mkEnv_ok (by
  intro p hp
  simp only [List.mem_cons, List.not_mem_nil, or_false] at hp
  subst hp
  exact o18) (by
  intro p hp
  simp only [List.mem_cons, List.not_mem_nil, or_false] at hp
  subst hp
  exact y19)
theorem w7_pur : ∀ c, opens Ap c = true → PurEnv e7 c := mkEnv_pur _ _ (by
  intro p hp
  simp only [List.mem_cons, List.not_mem_nil, or_false] at hp
  subst hp
  intro h; exact absurd h (by rw [show Ap 19 = false from rfl]; exact Bool.false_ne_true))
theorem u7_18 : e7 (2 * 18) = pureFn true (FA fun a : TVec × List TEntry => p_impl_stateOK a.1 a.2) := by
  unfold e7
  exact mkEnv_at (by rfl)
theorem x7_19 : k_sort_Strings (e7 (2 * 19 + 1)) := by
  unfold e7
  rw [mkEnv_own (g := sortFn) (by rfl)]
  exact ko_sort_Strings
theorem y7 : FunOK Try.prog 7 (ownFn Try.prog e7 (c_impl_SetElements 18 19)) := ownFn_ok e7_ok w7_pur (md := Md) (by kernel_rfl) (by kernel_rfl)
noncomputable def e8 : Env := mkEnv [] []
theorem e8_ok : EnvOK Try.prog e8 := mkEnv_ok (by intro p hp; cases hp) (by intro p hp; cases hp)
theorem w8_pur : ∀ c, opens Ap c = true → PurEnv e8 c := mkEnv_pur _ _ (by intro p hp; cases hp)
theorem o8 : PureOK Try.prog 8 true (FA fun a : List ByteArray × List ByteArray => p_laws_eqStringS a.1 a.2) := pure_tells e8_ok w8_pur (md := Md) (by kernel_rfl) (A := c_laws_eqStringS) (by kernel_rfl) (by
  rintro ⟨x, y⟩ b hb
  exact d_laws_eqStringS x y hb)
noncomputable def e36 : Env := mkEnv [] []
theorem e36_ok : EnvOK Try.prog e36 := mkEnv_ok (by intro p hp; cases hp) (by intro p hp; cases hp)
theorem w36_pur : ∀ c, opens Ap c = true → PurEnv e36 c := mkEnv_pur _ _ (by intro p hp; cases hp)
theorem o36 : PureOK Try.prog 36 true (FA fun a : List Int × List Int => p_laws_eqIntS a.1 a.2) := pure_tells e36_ok w36_pur (md := Md) (by kernel_rfl) (A := c_laws_eqIntS) (by kernel_rfl) (by
  rintro ⟨x, y⟩ b hb
  exact d_laws_eqIntS x y hb)
noncomputable def e20 : Env := mkEnv [(36, true, FA fun a : List Int × List Int => p_laws_eqIntS a.1 a.2)] []
theorem e20_ok : EnvOK Try.prog e20 := mkEnv_ok (by
  intro p hp
  simp only [List.mem_cons, List.not_mem_nil, or_false] at hp
  subst hp
  exact o36) (by intro p hp; cases hp)
theorem w20_pur : ∀ c, opens Ap c = true → PurEnv e20 c := mkEnv_pur _ _ (by intro p hp; cases hp)
theorem u20_36 : e20 (2 * 36) = pureFn true (FA fun a : List Int × List Int => p_laws_eqIntS a.1 a.2) := by
  unfold e20
  exact mkEnv_at (by rfl)
theorem o20 : PureOK Try.prog 20 true (FA fun a : TVec × TVec => p_laws_eqVector a.1 a.2) := pure_tells e20_ok w20_pur (md := Md) (by kernel_rfl) (A := c_laws_eqVector 36) (by kernel_rfl) (by
  rintro ⟨x, y⟩ b hb
  exact d_laws_eqVector u20_36 x y hb)
noncomputable def e43 : Env := mkEnv [] []
theorem e43_ok : EnvOK Try.prog e43 := mkEnv_ok (by intro p hp; cases hp) (by intro p hp; cases hp)
theorem w43_pur : ∀ c, opens Ap c = true → PurEnv e43 c := mkEnv_pur _ _ (by intro p hp; cases hp)
theorem o43 : PureOK Try.prog 43 true (FA fun a : TStamp × TStamp => p_laws_eqStamp a.1 a.2) := pure_tells e43_ok w43_pur (md := Md) (by kernel_rfl) (A := c_laws_eqStamp) (by kernel_rfl) (by
  rintro ⟨x, y⟩ b hb
  exact d_laws_eqStamp x y hb)
noncomputable def e37 : Env := mkEnv [(43, true, FA fun a : TStamp × TStamp => p_laws_eqStamp a.1 a.2)] []
theorem e37_ok : EnvOK Try.prog e37 := mkEnv_ok (by
  intro p hp
  simp only [List.mem_cons, List.not_mem_nil, or_false] at hp
  subst hp
  exact o43) (by intro p hp; cases hp)
theorem w37_pur : ∀ c, opens Ap c = true → PurEnv e37 c := mkEnv_pur _ _ (by intro p hp; cases hp)
theorem u37_43 : e37 (2 * 43) = pureFn true (FA fun a : TStamp × TStamp => p_laws_eqStamp a.1 a.2) := by
  unfold e37
  exact mkEnv_at (by rfl)
theorem o37 : PureOK Try.prog 37 true (FA fun a : TEntry × TEntry => p_laws_eqEntry a.1 a.2) := pure_tells e37_ok w37_pur (md := Md) (by kernel_rfl) (A := c_laws_eqEntry 43) (by kernel_rfl) (by
  rintro ⟨x, y⟩ b hb
  exact d_laws_eqEntry u37_43 x y hb)
noncomputable def e21 : Env := mkEnv [(37, true, FA fun a : TEntry × TEntry => p_laws_eqEntry a.1 a.2)] []
theorem e21_ok : EnvOK Try.prog e21 := mkEnv_ok (by
  intro p hp
  simp only [List.mem_cons, List.not_mem_nil, or_false] at hp
  subst hp
  exact o37) (by intro p hp; cases hp)
theorem w21_pur : ∀ c, opens Ap c = true → PurEnv e21 c := mkEnv_pur _ _ (by intro p hp; cases hp)
theorem u21_37 : e21 (2 * 37) = pureFn true (FA fun a : TEntry × TEntry => p_laws_eqEntry a.1 a.2) := by
  unfold e21
  exact mkEnv_at (by rfl)
theorem o21 : PureOK Try.prog 21 true (FA fun a : List TEntry × List TEntry => p_laws_eqEntryS a.1 a.2) := pure_tells e21_ok w21_pur (md := Md) (by kernel_rfl) (A := c_laws_eqEntryS 37) (by kernel_rfl) (by
  rintro ⟨x, y⟩ b hb
  exact d_laws_eqEntryS u21_37 x y hb)
noncomputable def e9 : Env := mkEnv [(20, true, FA fun a : TVec × TVec => p_laws_eqVector a.1 a.2), (21, true, FA fun a : List TEntry × List TEntry => p_laws_eqEntryS a.1 a.2)] []
theorem e9_ok : EnvOK Try.prog e9 := mkEnv_ok (by
  intro p hp
  simp only [List.mem_cons, List.not_mem_nil, or_false] at hp
  rcases hp with rfl | rfl
  · exact o20
  · exact o21) (by intro p hp; cases hp)
theorem w9_pur : ∀ c, opens Ap c = true → PurEnv e9 c := mkEnv_pur _ _ (by intro p hp; cases hp)
theorem u9_20 : e9 (2 * 20) = pureFn true (FA fun a : TVec × TVec => p_laws_eqVector a.1 a.2) := by
  unfold e9
  exact mkEnv_at (by rfl)
theorem u9_21 : e9 (2 * 21) = pureFn true (FA fun a : List TEntry × List TEntry => p_laws_eqEntryS a.1 a.2) := by
  unfold e9
  exact mkEnv_at (by rfl)
theorem o9 : PureOK Try.prog 9 true (FA fun a : TMulti × TMulti => p_laws_eqSet a.1 a.2) := pure_tells e9_ok w9_pur (md := Md) (by kernel_rfl) (A := c_laws_eqSet 20 21) (by kernel_rfl) (by
  rintro ⟨x, y⟩ b hb
  exact d_laws_eqSet u9_20 u9_21 x y hb)
noncomputable def e38 : Env := mkEnv [] []
theorem e38_ok : EnvOK Try.prog e38 := mkEnv_ok (by intro p hp; cases hp) (by intro p hp; cases hp)
theorem w38_pur : ∀ c, opens Ap c = true → PurEnv e38 c := mkEnv_pur _ _ (by intro p hp; cases hp)
theorem y38 : FunOK Try.prog 38 (runIn Try.prog e38 (c_laws_markIntS)) := runIn_ok e38_ok w38_pur (md := Md) (by kernel_rfl) (by kernel_rfl)
noncomputable def e22 : Env := mkEnv [] [(38, (runIn Try.prog e38 (c_laws_markIntS)))]
theorem e22_ok : EnvOK Try.prog e22 := mkEnv_ok (by intro p hp; cases hp) (by
  intro p hp
  simp only [List.mem_cons, List.not_mem_nil, or_false] at hp
  subst hp
  exact y38)
theorem w22_pur : ∀ c, opens Ap c = true → PurEnv e22 c := mkEnv_pur _ _ (by
  intro p hp
  simp only [List.mem_cons, List.not_mem_nil, or_false] at hp
  subst hp
  intro h; exact absurd h (by rw [show Ap 38 = false from rfl]; exact Bool.false_ne_true))
theorem x22_38 : k_laws_markIntS (e22 (2 * 38 + 1)) := by
  unfold e22
  rw [mkEnv_own (g := (runIn Try.prog e38 (c_laws_markIntS))) (by rfl)]
  exact ko_laws_markIntS
theorem y22 : FunOK Try.prog 22 (runIn Try.prog e22 (c_laws_markVector 38)) := runIn_ok e22_ok w22_pur (md := Md) (by kernel_rfl) (by kernel_rfl)
noncomputable def e24 : Env := mkEnv [] []
theorem e24_ok : EnvOK Try.prog e24 := mkEnv_ok (by intro p hp; cases hp) (by intro p hp; cases hp)
theorem w24_pur : ∀ c, opens Ap c = true → PurEnv e24 c := mkEnv_pur _ _ (by intro p hp; cases hp)
theorem o24 : PureOK Try.prog 24 true (FA fun a : Int => p_laws_markText a) := pure_tells e24_ok w24_pur (md := Md) (by kernel_rfl) (A := c_laws_markText) (by kernel_rfl) (by
  rintro x b hb
  exact d_laws_markText x hb)
noncomputable def e23 : Env := mkEnv [(24, true, FA fun a : Int => p_laws_markText a)] []
theorem e23_ok : EnvOK Try.prog e23 := mkEnv_ok (by
  intro p hp
  simp only [List.mem_cons, List.not_mem_nil, or_false] at hp
  subst hp
  exact o24) (by intro p hp; cases hp)
theorem w23_pur : ∀ c, opens Ap c = true → PurEnv e23 c := mkEnv_pur _ _ (by intro p hp; cases hp)
theorem u23_24 : e23 (2 * 24) = pureFn true (FA fun a : Int => p_laws_markText a) := by
  unfold e23
  exact mkEnv_at (by rfl)
theorem y23 : FunOK Try.prog 23 (runIn Try.prog e23 (c_laws_markEntryS 24)) := runIn_ok e23_ok w23_pur (md := Md) (by kernel_rfl) (by kernel_rfl)
noncomputable def e10 : Env := mkEnv [] [(22, (runIn Try.prog e22 (c_laws_markVector 38))), (23, (runIn Try.prog e23 (c_laws_markEntryS 24)))]
theorem e10_ok : EnvOK Try.prog e10 := mkEnv_ok (by intro p hp; cases hp) (by
  intro p hp
  simp only [List.mem_cons, List.not_mem_nil, or_false] at hp
  rcases hp with rfl | rfl
  · exact y22
  · exact y23)
theorem w10_pur : ∀ c, opens Ap c = true → PurEnv e10 c := mkEnv_pur _ _ (by
  intro p hp
  simp only [List.mem_cons, List.not_mem_nil, or_false] at hp
  rcases hp with rfl | rfl
  · intro h; exact absurd h (by rw [show Ap 22 = false from rfl]; exact Bool.false_ne_true)
  · intro h; exact absurd h (by rw [show Ap 23 = false from rfl]; exact Bool.false_ne_true))
theorem x10_22 : k_laws_markVector (e10 (2 * 22 + 1)) := by
  unfold e10
  rw [mkEnv_own (g := (runIn Try.prog e22 (c_laws_markVector 38))) (by rfl)]
  exact ko_laws_markVector x22_38
theorem x10_23 : k_laws_markEntryS (e10 (2 * 23 + 1)) := by
  unfold e10
  rw [mkEnv_own (g := (runIn Try.prog e23 (c_laws_markEntryS 24))) (by rfl)]
  exact ko_laws_markEntryS u23_24
theorem y10 : FunOK Try.prog 10 (runIn Try.prog e10 (c_laws_markSet 22 23)) := runIn_ok e10_ok w10_pur (md := Md) (by kernel_rfl) (by kernel_rfl)
noncomputable def e11 : Env := mkEnv [(24, true, FA fun a : Int => p_laws_markText a)] []
theorem e11_ok : EnvOK Try.prog e11 := mkEnv_ok (by
  intro p hp
  simp only [List.mem_cons, List.not_mem_nil, or_false] at hp
  subst hp
  exact o24) (by intro p hp; cases hp)
theorem w11_pur : ∀ c, opens Ap c = true → PurEnv e11 c := mkEnv_pur _ _ (by intro p hp; cases hp)
theorem u11_24 : e11 (2 * 24) = pureFn true (FA fun a : Int => p_laws_markText a) := by
  unfold e11
  exact mkEnv_at (by rfl)
theorem y11 : FunOK Try.prog 11 (runIn Try.prog e11 (c_laws_markStringS 24)) := runIn_ok e11_ok w11_pur (md := Md) (by kernel_rfl) (by kernel_rfl)
noncomputable def e12 : Env := mkEnv [(24, true, FA fun a : Int => p_laws_markText a)] []
theorem e12_ok : EnvOK Try.prog e12 := mkEnv_ok (by
  intro p hp
  simp only [List.mem_cons, List.not_mem_nil, or_false] at hp
  subst hp
  exact o24) (by intro p hp; cases hp)
theorem w12_pur : ∀ c, opens Ap c = true → PurEnv e12 c := mkEnv_pur _ _ (by intro p hp; cases hp)
theorem u12_24 : e12 (2 * 24) = pureFn true (FA fun a : Int => p_laws_markText a) := by
  unfold e12
  exact mkEnv_at (by rfl)
theorem o12 : PureOK Try.prog 12 true (FA fun a : List ByteArray × Int => p_laws_heldStringS a.1 a.2) := pure_tells e12_ok w12_pur (md := Md) (by kernel_rfl) (A := c_laws_heldStringS 24) (by kernel_rfl) (by
  rintro ⟨x, y⟩ b hb
  exact d_laws_heldStringS u12_24 x y hb)
noncomputable def e3 : Env := mkEnv [(4, true, FA fun a : TMulti × Int => p_laws_szSet a.1 a.2), (6, true, FA fun a : TMulti => p_laws_toSet a), (5, true, FA fun a : TMulti => p_spec_SetElements a), (8, true, FA fun a : List ByteArray × List ByteArray => p_laws_eqStringS a.1 a.2), (9, true, FA fun a : TMulti × TMulti => p_laws_eqSet a.1 a.2), (12, true, FA fun a : List ByteArray × Int => p_laws_heldStringS a.1 a.2)] [(6, (ownFn Try.prog e6 (c_laws_toSet 16 17))), (7, (ownFn Try.prog e7 (c_impl_SetElements 18 19))), (10, (runIn Try.prog e10 (c_laws_markSet 22 23))), (11, (runIn Try.prog e11 (c_laws_markStringS 24)))]
theorem e3_ok : EnvOK Try.prog e3 := mkEnv_ok (by
  intro p hp
  simp only [List.mem_cons, List.not_mem_nil, or_false] at hp
  rcases hp with rfl | rfl | rfl | rfl | rfl | rfl
  · exact o4
  · exact o6
  · exact o5
  · exact o8
  · exact o9
  · exact o12) (by
  intro p hp
  simp only [List.mem_cons, List.not_mem_nil, or_false] at hp
  rcases hp with rfl | rfl | rfl | rfl
  · exact y6
  · exact y7
  · exact y10
  · exact y11)
theorem w3_pur : ∀ c, opens ApL c = true → PurEnv e3 c := mkEnv_pur _ _ (by
  intro p hp
  simp only [List.mem_cons, List.not_mem_nil, or_false] at hp
  rcases hp with rfl | rfl | rfl | rfl
  · intro h; exact absurd h (by rw [show ApL 6 = false from rfl]; exact Bool.false_ne_true)
  · intro h; exact absurd h (by rw [show ApL 7 = false from rfl]; exact Bool.false_ne_true)
  · intro h; exact absurd h (by rw [show ApL 10 = false from rfl]; exact Bool.false_ne_true)
  · intro h; exact absurd h (by rw [show ApL 11 = false from rfl]; exact Bool.false_ne_true))
theorem u3_4 : e3 (2 * 4) = pureFn true (FA fun a : TMulti × Int => p_laws_szSet a.1 a.2) := by
  unfold e3
  exact mkEnv_at (by rfl)
theorem u3_6 : e3 (2 * 6) = pureFn true (FA fun a : TMulti => p_laws_toSet a) := by
  unfold e3
  exact mkEnv_at (by rfl)
theorem u3_5 : e3 (2 * 5) = pureFn true (FA fun a : TMulti => p_spec_SetElements a) := by
  unfold e3
  exact mkEnv_at (by rfl)
theorem u3_8 : e3 (2 * 8) = pureFn true (FA fun a : List ByteArray × List ByteArray => p_laws_eqStringS a.1 a.2) := by
  unfold e3
  exact mkEnv_at (by rfl)
theorem u3_9 : e3 (2 * 9) = pureFn true (FA fun a : TMulti × TMulti => p_laws_eqSet a.1 a.2) := by
  unfold e3
  exact mkEnv_at (by rfl)
theorem u3_12 : e3 (2 * 12) = pureFn true (FA fun a : List ByteArray × Int => p_laws_heldStringS a.1 a.2) := by
  unfold e3
  exact mkEnv_at (by rfl)
theorem x3_6 : k_laws_toSet (e3 (2 * 6 + 1)) := by
  unfold e3
  rw [mkEnv_own (g := (ownFn Try.prog e6 (c_laws_toSet 16 17))) (by rfl)]
  exact ko_laws_toSet x6_16 x6_17
theorem x3_7 : k_impl_SetElements (e3 (2 * 7 + 1)) := by
  unfold e3
  rw [mkEnv_own (g := (ownFn Try.prog e7 (c_impl_SetElements 18 19))) (by rfl)]
  exact ko_impl_SetElements u7_18 x7_19
theorem x3_10 : k_laws_markSet (e3 (2 * 10 + 1)) := by
  unfold e3
  rw [mkEnv_own (g := (runIn Try.prog e10 (c_laws_markSet 22 23))) (by rfl)]
  exact ko_laws_markSet x10_22 x10_23
theorem x3_11 : k_laws_markStringS (e3 (2 * 11 + 1)) := by
  unfold e3
  rw [mkEnv_own (g := (runIn Try.prog e11 (c_laws_markStringS 24))) (by rfl)]
  exact ko_laws_markStringS u11_24
theorem law : LawOK Try.prog 3 [.st [.st [.sl 8 (.int .i64)], .sl 32 (.st [.st [.int .i64, .int .i64], .str])]] := law_of_run e3_ok w3_pur (md := MdL) (A := c_laws_FnExactSetElements 4 6 5 7 8 9 10 11 12) (by kernel_rfl) (by
  intro xs hx
  cases hx with
  | cons h0 hx =>
  cases hx
  obtain ⟨a0, rfl, k0⟩ := fit_TMulti h0
  exact d_laws_FnExactSetElements u3_4 u3_6 u3_5 u3_8 u3_9 u3_12 x3_6 x3_7 x3_10 x3_11 a0 (plain_SetElements a0 k0))
theorem own : ownKnob Try.prog.godebug = none := by kernel_rfl
theorem laidOut : laidOutB Try.prog = true := by kernel_rfl
set_option maxRecDepth 100000 in
theorem lifted (os : Os) (started : os.Started) (H : Type) (enc : TypeId × Value → H) :
    ReturnsInHanded {} Try.checked os 3 .any (Rows.fnExactSetElementsSpec.pre6 enc Try.prog Try.f3 Rows.fnExactSetElementsRow.domain false) (Rows.fnExactSetElementsSpec.post enc Try.prog Try.f3 false true false false) := by
  refine returnsInHanded_of_change_sized (C := Try.checked) own started (by kernel_rfl) Try.func3
    (ChangeSpec.witness6 (enc := enc) (C := Try.checked) false ⟨#[], #[.agg #[.slice none 0 0, .slice none 0 0]], []⟩ 8 (by kernel_rfl) (by kernel_rfl) (by kernel_rfl) (by kernel_rfl)) ?_
  intro W base args ds gs before hval hW hcnd hsz _
  refine law_contract (n := 8) (tb := 4) (shs := [.st [.st [.sl 8 (.int .i64)], .sl 32 (.st [.st [.int .i64, .int .i64], .str])]]) laidOut rfl ?_ (by kernel_rfl) Try.underlying4 (by kernel_rfl) (by kernel_rfl) law W base args ds gs before hval hW hsz
  intro ds hds
  have h1 : ds.length = 1 := hds
  match ds, h1 with
  | [d0], _ => rfl
theorem over : Rows.fnExactSetElementsRow.holds Try.pinned (OpenSpec.ofChange Rows.fnExactSetElementsSpec) :=
  OpenClaim.holds_of_wide 3 Try.f3 rfl rfl rfl rfl rfl rfl rfl ⟨rfl, rfl, rfl, rfl, rfl⟩ rfl rfl rfl rfl rfl (by kernel_rfl) Try.func3 (by kernel_rfl)
    (of_decide_eq_true (by kernel_rfl)) (by unfold Func.isWrapper; first | (rw [if_pos (by decide +kernel)]; kernel_rfl) | (rw [if_neg (by decide +kernel)]; exact ⟨rfl, rfl⟩))
    (fun os started H enc _ => lifted os started H enc)
theorem proved : Rows.FnExactSetElementsSaid := over
#print axioms proved
end Go.Proofs.Ytcfjnhpheaiofaa.RFnExactSetElements
namespace Go.Proofs.Ytcfjnhpheaiofaa
/-- The row, under a short name, for the claim. -/
theorem fnExactSetElements_holds : Rows.FnExactSetElementsSaid := RFnExactSetElements.proved
end Go.Proofs.Ytcfjnhpheaiofaa
