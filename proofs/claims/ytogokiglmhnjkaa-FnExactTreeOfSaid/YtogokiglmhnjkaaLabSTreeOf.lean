/- The law FnExactTreeOf: its functions' contracts, its run, its row. No condition. -/
import Derived.Test.YtogokiglmhnjkaaRows
import Derived.Test.YtogokiglmhnjkaaLabPTreeOf
import Derived.WalkKit
import Derived.Shelf.SlSortFunc.Xorshift
import Derived.ProofKit
set_option linter.unusedVariables false
namespace Go.Proofs.Ytogokiglmhnjkaa.RFnExactTreeOf
open Go.AM
open Pic (enc dec dec_enc dec_sub)
def Md : Modes := fun f => if f == 10 then 4 else if f == 11 then 1 else if f == 12 then 1 else if f == 14 then 2 else if f == 16 then 4 else if f == 17 then 1 else if f == 18 then 1 else if f == 21 then 2 else if f == 22 then 2 else if f == 26 then 4 else if f == 27 then 1 else if f == 28 then 1 else if f == 29 then 1 else if f == 32 then 2 else if f == 33 then 2 else if f == 35 then 4 else if f == 36 then 1 else if f == 38 then 4 else if f == 39 then 1 else if f == 42 then 4 else if f == 43 then 1 else if f == 46 then 2 else if f == 47 then 2 else if f == 48 then 2 else if f == 53 then 1 else if f == 54 then 1 else if f == 57 then 1 else if f == 59 then 2 else if f == 61 then 2 else if f == 62 then 1 else if f == 63 then 2 else if f == 69 then 1 else if f == 70 then 1 else if f == 75 then 2 else if f == 81 then 1 else if f == 86 then 2 else if f == 91 then 4 else if f == 92 then 1 else if f == 94 then 2 else if f == 95 then 2 else if f == 96 then 1 else if f == 98 then 2 else if f == 100 then 2 else if f == 108 then 2 else if f == 110 then 4 else if f == 119 then 2 else if f == 133 then 2 else if f == 134 then 2 else if f == 135 then 2 else if f == 136 then 2 else if f == 137 then 2 else if f == 138 then 2 else if f == 139 then 2 else if f == 140 then 2 else if f == 141 then 4 else if f == 142 then 2 else if f == 144 then 2 else if f == 145 then 2 else if f == 146 then 2 else if f == 147 then 2 else 0
def Ap : Nat → Bool := fun f => Md f == 1
def MdL : Modes := fun f => if Md f == 1 then 3 else Md f
def ApL : Nat → Bool := fun f => MdL f == 1
noncomputable def e82 : Env := mkEnv [] []
theorem e82_ok : EnvOK Try.prog e82 := mkEnv_ok (by intro p hp; cases hp) (by intro p hp; cases hp)
theorem w82_pur : ∀ c, opens Ap c = true → PurEnv e82 c := mkEnv_pur _ _ (by intro p hp; cases hp)
theorem o82 : PureOK Try.prog 82 true (FA fun a : TMove × Int => p_laws_szMoveOp a.1 a.2) := pure_tells e82_ok w82_pur (md := Md) (by kernel_rfl) (A := c_laws_szMoveOp) (by kernel_rfl) (by
  rintro ⟨x, y⟩ b hb
  exact d_laws_szMoveOp x y hb)
noncomputable def e37 : Env := mkEnv [(82, true, FA fun a : TMove × Int => p_laws_szMoveOp a.1 a.2)] []
theorem e37_ok : EnvOK Try.prog e37 := mkEnv_ok (by
  intro p hp
  simp only [List.mem_cons, List.not_mem_nil, or_false] at hp
  subst hp
  exact o82) (by intro p hp; cases hp)
theorem w37_pur : ∀ c, opens Ap c = true → PurEnv e37 c := mkEnv_pur _ _ (by intro p hp; cases hp)
theorem u37_82 : e37 (2 * 82) = pureFn true (FA fun a : TMove × Int => p_laws_szMoveOp a.1 a.2) := by
  unfold e37
  exact mkEnv_at (by rfl)
theorem o37 : PureOK Try.prog 37 true (FA fun a : List TMove × Int => p_laws_szMoveOpS a.1 a.2) := pure_tells e37_ok w37_pur (md := Md) (by kernel_rfl) (A := c_laws_szMoveOpS 82) (by kernel_rfl) (by
  rintro ⟨x, y⟩ b hb
  exact d_laws_szMoveOpS u37_82 x y hb)
noncomputable def e112 : Env := mkEnv [] []
theorem e112_ok : EnvOK Try.prog e112 := mkEnv_ok (by intro p hp; cases hp) (by intro p hp; cases hp)
theorem w112_pur : ∀ c, opens Ap c = true → PurEnv e112 c := mkEnv_pur _ _ (by intro p hp; cases hp)
theorem o112 : PureOK Try.prog 112 true (FA fun a : TStamp => p_laws_toStamp a) := pure_tells e112_ok w112_pur (md := Md) (by kernel_rfl) (A := c_laws_toStamp) (by kernel_rfl) (by
  rintro x b hb
  exact d_laws_toStamp x hb)
noncomputable def e85 : Env := mkEnv [(112, true, FA fun a : TStamp => p_laws_toStamp a)] []
theorem e85_ok : EnvOK Try.prog e85 := mkEnv_ok (by
  intro p hp
  simp only [List.mem_cons, List.not_mem_nil, or_false] at hp
  subst hp
  exact o112) (by intro p hp; cases hp)
theorem w85_pur : ∀ c, opens Ap c = true → PurEnv e85 c := mkEnv_pur _ _ (by intro p hp; cases hp)
theorem u85_112 : e85 (2 * 112) = pureFn true (FA fun a : TStamp => p_laws_toStamp a) := by
  unfold e85
  exact mkEnv_at (by rfl)
theorem o85 : PureOK Try.prog 85 true (FA fun a : TMove => p_laws_toMoveOp a) := pure_tells e85_ok w85_pur (md := Md) (by kernel_rfl) (A := c_laws_toMoveOp 112) (by kernel_rfl) (by
  rintro x b hb
  exact d_laws_toMoveOp u85_112 x hb)
noncomputable def e39 : Env := mkEnv [(85, true, FA fun a : TMove => p_laws_toMoveOp a)] []
theorem e39_ok : EnvOK Try.prog e39 := mkEnv_ok (by
  intro p hp
  simp only [List.mem_cons, List.not_mem_nil, or_false] at hp
  subst hp
  exact o85) (by intro p hp; cases hp)
theorem w39_pur : ∀ c, opens Ap c = true → PurEnv e39 c := mkEnv_pur _ _ (by intro p hp; cases hp)
theorem u39_85 : e39 (2 * 85) = pureFn true (FA fun a : TMove => p_laws_toMoveOp a) := by
  unfold e39
  exact mkEnv_at (by rfl)
theorem o39 : PureOK Try.prog 39 true (FA fun a : List TMove => p_laws_toMoveOpS a) := pure_tells e39_ok w39_pur (md := Md) (by kernel_rfl) (A := c_laws_toMoveOpS 85) (by kernel_rfl) (by
  rintro x b hb
  exact d_laws_toMoveOpS u39_85 x hb)
theorem y39 : FunOK Try.prog 39 (ownFn Try.prog e39 (c_laws_toMoveOpS 85)) := ownFn_ok e39_ok w39_pur (md := Md) (by kernel_rfl) (by kernel_rfl)
noncomputable def e141 : Env := mkEnv [] []
theorem e141_ok : EnvOK Try.prog e141 := mkEnv_ok (by intro p hp; cases hp) (by intro p hp; cases hp)
theorem w141_pur : ∀ c, opens Ap c = true → PurEnv e141 c := mkEnv_pur _ _ (by intro p hp; cases hp)
theorem o141 : PureOK Try.prog 141 true (FA fun a : TStamp => p_spec_StampOK a) := pure_tells e141_ok w141_pur (md := Md) (by kernel_rfl) (A := c_spec_StampOK) (by kernel_rfl) (by
  rintro x b hb
  exact d_spec_StampOK x hb)
noncomputable def e109 : Env := mkEnv [(141, true, FA fun a : TStamp => p_spec_StampOK a)] []
theorem e109_ok : EnvOK Try.prog e109 := mkEnv_ok (by
  intro p hp
  simp only [List.mem_cons, List.not_mem_nil, or_false] at hp
  subst hp
  exact o141) (by intro p hp; cases hp)
theorem w109_pur : ∀ c, opens Ap c = true → PurEnv e109 c := mkEnv_pur _ _ (by intro p hp; cases hp)
theorem u109_141 : e109 (2 * 141) = pureFn true (FA fun a : TStamp => p_spec_StampOK a) := by
  unfold e109
  exact mkEnv_at (by rfl)
theorem o109 : PureOK Try.prog 109 true (FA fun a : TMove => p_spec_l06OpOK a) := pure_tells e109_ok w109_pur (md := Md) (by kernel_rfl) (A := c_spec_l06OpOK 141) (by kernel_rfl) (by
  rintro x b hb
  exact d_spec_l06OpOK u109_141 x hb)
noncomputable def e110 : Env := mkEnv [] []
theorem e110_ok : EnvOK Try.prog e110 := mkEnv_ok (by intro p hp; cases hp) (by intro p hp; cases hp)
theorem w110_pur : ∀ c, opens Ap c = true → PurEnv e110 c := mkEnv_pur _ _ (by intro p hp; cases hp)
theorem o110 : PureOK Try.prog 110 true (FA fun a : TStamp × TStamp => p_spec_StampLess a.1 a.2) := pure_tells e110_ok w110_pur (md := Md) (by kernel_rfl) (A := c_spec_StampLess) (by kernel_rfl) (by
  rintro ⟨x, y⟩ b hb
  exact d_spec_StampLess x y hb)
noncomputable def e83 : Env := mkEnv [(109, true, FA fun a : TMove => p_spec_l06OpOK a), (110, true, FA fun a : TStamp × TStamp => p_spec_StampLess a.1 a.2)] []
theorem e83_ok : EnvOK Try.prog e83 := mkEnv_ok (by
  intro p hp
  simp only [List.mem_cons, List.not_mem_nil, or_false] at hp
  rcases hp with rfl | rfl
  · exact o109
  · exact o110) (by intro p hp; cases hp)
theorem w83_pur : ∀ c, opens Ap c = true → PurEnv e83 c := mkEnv_pur _ _ (by intro p hp; cases hp)
theorem u83_109 : e83 (2 * 109) = pureFn true (FA fun a : TMove => p_spec_l06OpOK a) := by
  unfold e83
  exact mkEnv_at (by rfl)
theorem u83_110 : e83 (2 * 110) = pureFn true (FA fun a : TStamp × TStamp => p_spec_StampLess a.1 a.2) := by
  unfold e83
  exact mkEnv_at (by rfl)
theorem o83 : PureOK Try.prog 83 true (FA fun a : List TMove => p_spec_l06Clean a) := pure_tells e83_ok w83_pur (md := Md) (by kernel_rfl) (A := c_spec_l06Clean 109 110) (by kernel_rfl) (by
  rintro x b hb
  exact d_spec_l06Clean u83_109 u83_110 x hb)
noncomputable def e111 : Env := mkEnv [] []
theorem e111_ok : EnvOK Try.prog e111 := mkEnv_ok (by intro p hp; cases hp) (by intro p hp; cases hp)
theorem w111_pur : ∀ c, opens Ap c = true → PurEnv e111 c := mkEnv_pur _ _ (by intro p hp; cases hp)
theorem o111 : PureOK Try.prog 111 true (FA fun a : TForest × Int × Int => p_spec_l06Forest_under a.1 a.2.1 a.2.2) := pure_tells e111_ok w111_pur (md := Md) (by kernel_rfl) (A := c_spec_l06Forest_under) (by kernel_rfl) (by
  rintro ⟨x, y, z⟩ b hb
  exact d_spec_l06Forest_under x y z hb)
noncomputable def e84 : Env := mkEnv [(111, true, FA fun a : TForest × Int × Int => p_spec_l06Forest_under a.1 a.2.1 a.2.2)] []
theorem e84_ok : EnvOK Try.prog e84 := mkEnv_ok (by
  intro p hp
  simp only [List.mem_cons, List.not_mem_nil, or_false] at hp
  subst hp
  exact o111) (by intro p hp; cases hp)
theorem w84_pur : ∀ c, opens Ap c = true → PurEnv e84 c := mkEnv_pur _ _ (by intro p hp; cases hp)
theorem u84_111 : e84 (2 * 111) = pureFn true (FA fun a : TForest × Int × Int => p_spec_l06Forest_under a.1 a.2.1 a.2.2) := by
  unfold e84
  exact mkEnv_at (by rfl)
theorem o84 : PureOK Try.prog 84 true (FA fun a : List TMove => p_spec_l06Grow a) := pure_tells e84_ok w84_pur (md := Md) (by kernel_rfl) (A := c_spec_l06Grow 111) (by kernel_rfl) (by
  rintro x b hb
  exact d_spec_l06Grow u84_111 x hb)
noncomputable def e42 : Env := mkEnv [(83, true, FA fun a : List TMove => p_spec_l06Clean a), (84, true, FA fun a : List TMove => p_spec_l06Grow a)] []
theorem e42_ok : EnvOK Try.prog e42 := mkEnv_ok (by
  intro p hp
  simp only [List.mem_cons, List.not_mem_nil, or_false] at hp
  rcases hp with rfl | rfl
  · exact o83
  · exact o84) (by intro p hp; cases hp)
theorem w42_pur : ∀ c, opens Ap c = true → PurEnv e42 c := mkEnv_pur _ _ (by intro p hp; cases hp)
theorem u42_83 : e42 (2 * 83) = pureFn true (FA fun a : List TMove => p_spec_l06Clean a) := by
  unfold e42
  exact mkEnv_at (by rfl)
theorem u42_84 : e42 (2 * 84) = pureFn true (FA fun a : List TMove => p_spec_l06Grow a) := by
  unfold e42
  exact mkEnv_at (by rfl)
theorem o42 : PureOK Try.prog 42 false (FA fun a : List TMove => p_spec_TreeOf a) := pure_tells e42_ok w42_pur (md := Md) (by kernel_rfl) (A := c_spec_TreeOf 83 84) (by kernel_rfl) (by
  rintro x b hb
  exact d_spec_TreeOf u42_83 u42_84 x hb)
noncomputable def e56 : Env := mkEnv [] []
theorem e56_ok : EnvOK Try.prog e56 := mkEnv_ok (by intro p hp; cases hp) (by intro p hp; cases hp)
theorem w56_pur : ∀ c, opens Ap c = true → PurEnv e56 c := mkEnv_pur _ _ (by intro p hp; cases hp)
theorem o56 : PureOK Try.prog 56 true (FA fun a : Int => p_impl_isActor a) := pure_tells e56_ok w56_pur (md := Md) (by kernel_rfl) (A := c_impl_isActor) (by kernel_rfl) (by
  rintro x b hb
  exact d_impl_isActor x hb)
noncomputable def e113 : Env := mkEnv [(56, true, FA fun a : Int => p_impl_isActor a)] []
theorem e113_ok : EnvOK Try.prog e113 := mkEnv_ok (by
  intro p hp
  simp only [List.mem_cons, List.not_mem_nil, or_false] at hp
  subst hp
  exact o56) (by intro p hp; cases hp)
theorem w113_pur : ∀ c, opens Ap c = true → PurEnv e113 c := mkEnv_pur _ _ (by intro p hp; cases hp)
theorem u113_56 : e113 (2 * 56) = pureFn true (FA fun a : Int => p_impl_isActor a) := by
  unfold e113
  exact mkEnv_at (by rfl)
theorem o113 : PureOK Try.prog 113 true (FA fun a : TStamp => p_impl_StampOK a) := pure_tells e113_ok w113_pur (md := Md) (by kernel_rfl) (A := c_impl_StampOK 56) (by kernel_rfl) (by
  rintro x b hb
  exact d_impl_StampOK u113_56 x hb)
noncomputable def e114 : Env := mkEnv [] []
theorem e114_ok : EnvOK Try.prog e114 := mkEnv_ok (by intro p hp; cases hp) (by intro p hp; cases hp)
theorem w114_pur : ∀ c, opens Ap c = true → PurEnv e114 c := mkEnv_pur _ _ (by intro p hp; cases hp)
theorem o114 : PureOK Try.prog 114 true (FA fun a : TMove => p_impl_moveOK a) := pure_tells e114_ok w114_pur (md := Md) (by kernel_rfl) (A := c_impl_moveOK) (by kernel_rfl) (by
  rintro x b hb
  exact d_impl_moveOK x hb)
def sort_ren : Go.Shelf.Ren := ⟨fun | 0 => 0 | 1 => 1 | 2 => 2 | 6 => 75 | 10 => 104 | 11 => 105 | 12 => 106 | 13 => 107 | 14 => 108 | 15 => 122 | 16 => 123 | 17 => 124 | 18 => 125 | 19 => 126 | 20 => 127 | 21 => 128 | 22 => 129 | 23 => 130 | 24 => 131 | 25 => 132 | 26 => 133 | 27 => 134 | 28 => 135 | 29 => 136 | 30 => 137 | 31 => 138 | 32 => 139 | 33 => 140 | 34 => 142 | 35 => 143 | 36 => 144 | 37 => 145 | 38 => 146 | 39 => 147 | 40 => 148 | 41 => 149 | 42 => 150 | 43 => 151 | 44 => 152 | 45 => 153 | 46 => 154 | 47 => 155 | 48 => 156 | 49 => 157 | 50 => 158 | 51 => 159 | 52 => 160 | 53 => 161 | 54 => 162 | 55 => 163 | 56 => 164 | 57 => 165 | 58 => 166 | n => n, fun | 0 => 0 | 1 => 1 | 2 => 2 | 3 => 3 | 4 => 4 | 5 => 5 | 6 => 6 | 7 => 7 | 8 => 8 | 9 => 9 | 10 => 10 | 11 => 11 | 12 => 12 | 13 => 13 | 14 => 14 | 15 => 15 | 16 => 16 | 17 => 17 | 18 => 18 | 19 => 19 | 20 => 20 | 21 => 21 | 23 => 110 | 26 => 111 | 28 => 22 | 30 => 125 | 32 => 153 | 33 => 154 | 34 => 155 | 35 => 156 | 36 => 157 | 37 => 158 | 38 => 159 | 39 => 146 | 40 => 160 | 41 => 161 | 42 => 162 | 43 => 163 | 44 => 164 | 45 => 172 | 46 => 173 | 47 => 174 | 48 => 175 | 49 => 176 | 50 => 177 | 51 => 170 | 52 => 178 | 53 => 179 | 54 => 180 | 55 => 181 | 56 => 182 | 57 => 183 | 58 => 184 | 59 => 185 | 60 => 186 | 61 => 187 | 62 => 188 | 63 => 189 | 64 => 190 | 65 => 191 | 66 => 192 | 67 => 193 | 68 => 194 | 69 => 195 | 70 => 196 | 71 => 197 | 72 => 198 | 73 => 199 | 74 => 200 | 75 => 201 | 76 => 202 | 77 => 203 | 78 => 204 | 79 => 205 | 80 => 206 | 81 => 207 | 82 => 208 | 83 => 209 | 84 => 210 | n => n, fun n => n⟩
theorem sort_lays : Go.Proofs.LaysGg.n6 Try.prog sort_ren where
  mixed := by kernel_rfl
  f6 := Try.func75.trans (congrArg some (by kernel_rfl))
  f10 := Try.func104.trans (congrArg some (by kernel_rfl))
  f11 := Try.func105.trans (congrArg some (by kernel_rfl))
  f12 := Try.func106.trans (congrArg some (by kernel_rfl))
  f13 := Try.func107.trans (congrArg some (by kernel_rfl))
  f14 := Try.func108.trans (congrArg some (by kernel_rfl))
  f24 := Try.func131.trans (congrArg some (by kernel_rfl))
  f25 := Try.func132.trans (congrArg some (by kernel_rfl))
  f26 := Try.func133.trans (congrArg some (by kernel_rfl))
  f27 := Try.func134.trans (congrArg some (by kernel_rfl))
  f28 := Try.func135.trans (congrArg some (by kernel_rfl))
  f29 := Try.func136.trans (congrArg some (by kernel_rfl))
  f30 := Try.func137.trans (congrArg some (by kernel_rfl))
  f31 := Try.func138.trans (congrArg some (by kernel_rfl))
  f32 := Try.func139.trans (congrArg some (by kernel_rfl))
  f33 := Try.func140.trans (congrArg some (by kernel_rfl))
  f34 := Try.func142.trans (congrArg some (by kernel_rfl))
  f35 := Try.func143.trans (congrArg some (by kernel_rfl))
  f36 := Try.func144.trans (congrArg some (by kernel_rfl))
  f37 := Try.func145.trans (congrArg some (by kernel_rfl))
  f38 := Try.func146.trans (congrArg some (by kernel_rfl))
  f39 := Try.func147.trans (congrArg some (by kernel_rfl))
  t0 := Try.underlying0
  a0 := Try.isAgg0
  z0 := Try.sizeOf0
  v0 := Try.zeroValue0
  i0 := by kernel_rfl
  t3 := Try.underlying3
  a3 := Try.isAgg3
  z3 := Try.sizeOf3
  v3 := Try.zeroValue3
  i3 := by kernel_rfl
  t4 := Try.underlying4
  a4 := Try.isAgg4
  z4 := Try.sizeOf4
  v4 := Try.zeroValue4
  i4 := by kernel_rfl
  t5 := Try.underlying5
  a5 := Try.isAgg5
  z5 := Try.sizeOf5
  v5 := Try.zeroValue5
  i5 := by kernel_rfl
  t9 := Try.underlying9
  a9 := Try.isAgg9
  z9 := Try.sizeOf9
  v9 := Try.zeroValue9
  i9 := by kernel_rfl
  t12 := Try.underlying12
  a12 := Try.isAgg12
  z12 := Try.sizeOf12
  v12 := Try.zeroValue12
  i12 := by kernel_rfl
  t17 := Try.underlying17
  a17 := Try.isAgg17
  z17 := Try.sizeOf17
  v17 := Try.zeroValue17
  i17 := by kernel_rfl
  t20 := Try.underlying20
  a20 := Try.isAgg20
  z20 := Try.sizeOf20
  v20 := Try.zeroValue20
  i20 := by kernel_rfl
  t26 := Try.underlying111
  a26 := Try.isAgg111
  z26 := Try.sizeOf111
  v26 := Try.zeroValue111
  i26 := by kernel_rfl
  t32 := Try.underlying153
  a32 := Try.isAgg153
  z32 := Try.sizeOf153
  v32 := Try.zeroValue153
  i32 := by kernel_rfl
  t33 := Try.underlying154
  a33 := Try.isAgg154
  z33 := Try.sizeOf154
  v33 := Try.zeroValue154
  i33 := by kernel_rfl
  t35 := Try.underlying156
  a35 := Try.isAgg156
  z35 := Try.sizeOf156
  v35 := Try.zeroValue156
  i35 := by kernel_rfl
  t37 := Try.underlying158
  a37 := Try.isAgg158
  z37 := Try.sizeOf158
  v37 := Try.zeroValue158
  i37 := by kernel_rfl
  t41 := Try.underlying161
  a41 := Try.isAgg161
  z41 := Try.sizeOf161
  v41 := Try.zeroValue161
  i41 := by kernel_rfl
  t44 := Try.underlying164
  a44 := Try.isAgg164
  z44 := Try.sizeOf164
  v44 := Try.zeroValue164
  i44 := by kernel_rfl
  t49 := Try.underlying176
  a49 := Try.isAgg176
  z49 := Try.sizeOf176
  v49 := Try.zeroValue176
  i49 := by kernel_rfl
  t51 := Try.underlying170
  a51 := Try.isAgg170
  z51 := Try.sizeOf170
  v51 := Try.zeroValue170
  i51 := by kernel_rfl
  t53 := Try.underlying179
  a53 := Try.isAgg179
  z53 := Try.sizeOf179
  v53 := Try.zeroValue179
  i53 := by kernel_rfl
  t54 := Try.underlying180
  a54 := Try.isAgg180
  z54 := Try.sizeOf180
  v54 := Try.zeroValue180
  i54 := by kernel_rfl
  t58 := Try.underlying184
  a58 := Try.isAgg184
  z58 := Try.sizeOf184
  v58 := Try.zeroValue184
  i58 := by kernel_rfl
  t60 := Try.underlying186
  a60 := Try.isAgg186
  z60 := Try.sizeOf186
  v60 := Try.zeroValue186
  i60 := by kernel_rfl
  t64 := Try.underlying190
  a64 := Try.isAgg190
  z64 := Try.sizeOf190
  v64 := Try.zeroValue190
  i64 := by kernel_rfl
  t66 := Try.underlying192
  a66 := Try.isAgg192
  z66 := Try.sizeOf192
  v66 := Try.zeroValue192
  i66 := by kernel_rfl
  t67 := Try.underlying193
  a67 := Try.isAgg193
  z67 := Try.sizeOf193
  v67 := Try.zeroValue193
  i67 := by kernel_rfl
  t75 := Try.underlying201
  a75 := Try.isAgg201
  z75 := Try.sizeOf201
  v75 := Try.zeroValue201
  i75 := by kernel_rfl
  t76 := Try.underlying202
  a76 := Try.isAgg202
  z76 := Try.sizeOf202
  v76 := Try.zeroValue202
  i76 := by kernel_rfl
  t77 := Try.underlying203
  a77 := Try.isAgg203
  z77 := Try.sizeOf203
  v77 := Try.zeroValue203
  i77 := by kernel_rfl
  t78 := Try.underlying204
  a78 := Try.isAgg204
  z78 := Try.sizeOf204
  v78 := Try.zeroValue204
  i78 := by kernel_rfl
  t79 := Try.underlying205
  a79 := Try.isAgg205
  z79 := Try.sizeOf205
  v79 := Try.zeroValue205
  i79 := by kernel_rfl
  t80 := Try.underlying206
  a80 := Try.isAgg206
  z80 := Try.sizeOf206
  v80 := Try.zeroValue206
  i80 := by kernel_rfl
  t82 := Try.underlying208
  a82 := Try.isAgg208
  z82 := Try.sizeOf208
  v82 := Try.zeroValue208
  i82 := by kernel_rfl
def sortTabL : List (Nat × AFn) := [(133, c_sort_insertionSort_func), (142, c_sort_siftDown_func), (134, (c_sort_heapSort_func 142)), (137, c_sort_reverseRange_func), (138, c_sort_partialInsertionSort_func), (139, c_sort_partitionEqual_func), (140, c_sort_partition_func), (147, c_sort_order2_func), (146, (c_sort_median_func 147)), (145, (c_sort_medianAdjacent_func 146)), (136, (c_sort_choosePivot_func 145 146)), (144, c_sort_xorshift_Next), (135, (c_sort_breakPatterns_func 143 144)), (108, (c_sort_pdqsort_func 133 134 135 136 137 138 139 140 108))]
def sortTab : Nat → Option AFn := fun f => sortTabL.lookup f
theorem sortTab_T : SortT sortTab 133 134 135 136 137 138 139 140 108 142 147 146 145 144 143 := ⟨rfl, rfl, rfl, rfl, rfl, rfl, rfl, rfl, rfl, rfl, rfl, rfl, rfl, rfl⟩
theorem sortTab_ok : ∀ f F, sortTab f = some F → callable Try.prog f = true ∧ compFn Try.prog (fun _ => false) Md f = some F := by
  intro f F h
  have hm := lookup_mem h
  unfold sortTabL at hm
  simp only [List.mem_cons, List.not_mem_nil, or_false, Prod.mk.injEq] at hm
  rcases hm with ⟨rfl, rfl⟩ | ⟨rfl, rfl⟩ | ⟨rfl, rfl⟩ | ⟨rfl, rfl⟩ | ⟨rfl, rfl⟩ | ⟨rfl, rfl⟩ | ⟨rfl, rfl⟩ | ⟨rfl, rfl⟩ | ⟨rfl, rfl⟩ | ⟨rfl, rfl⟩ | ⟨rfl, rfl⟩ | ⟨rfl, rfl⟩ | ⟨rfl, rfl⟩ | ⟨rfl, rfl⟩
  · exact ⟨by kernel_rfl, by kernel_rfl⟩
  · exact ⟨by kernel_rfl, by kernel_rfl⟩
  · exact ⟨by kernel_rfl, by kernel_rfl⟩
  · exact ⟨by kernel_rfl, by kernel_rfl⟩
  · exact ⟨by kernel_rfl, by kernel_rfl⟩
  · exact ⟨by kernel_rfl, by kernel_rfl⟩
  · exact ⟨by kernel_rfl, by kernel_rfl⟩
  · exact ⟨by kernel_rfl, by kernel_rfl⟩
  · exact ⟨by kernel_rfl, by kernel_rfl⟩
  · exact ⟨by kernel_rfl, by kernel_rfl⟩
  · exact ⟨by kernel_rfl, by kernel_rfl⟩
  · exact ⟨by kernel_rfl, by kernel_rfl⟩
  · exact ⟨by kernel_rfl, by kernel_rfl⟩
  · exact ⟨by kernel_rfl, by kernel_rfl⟩
noncomputable def sortL0 : Env := mkEnv [] []
theorem sortL0_ok : EnvOK Try.prog sortL0 := mkEnv_ok (by intro p hp; cases hp) (by intro p hp; cases hp)
theorem sortL0_pur : ∀ c, opens Ap c = true → PurEnv sortL0 c := mkEnv_pur _ _ (by intro p hp; cases hp)
theorem sort_less0 : PureOK Try.prog 116 true (FA fun a : TStamp × TStamp => p_impl_StampLess a.1 a.2) := pure_tells sortL0_ok sortL0_pur (md := Md) (by kernel_rfl) (A := c_impl_StampLess) (by kernel_rfl) (by
  rintro ⟨x, y⟩ b hb
  exact d_impl_StampLess x y hb)
noncomputable def sortL1 : Env := mkEnv [(116, true, FA fun a : TStamp × TStamp => p_impl_StampLess a.1 a.2)] []
theorem sortL1_ok : EnvOK Try.prog sortL1 := mkEnv_ok (by
  intro p hp
  simp only [List.mem_cons, List.not_mem_nil, or_false] at hp
  subst hp
  exact sort_less0) (by intro p hp; cases hp)
theorem sortL1_pur : ∀ c, opens Ap c = true → PurEnv sortL1 c := mkEnv_pur _ _ (by intro p hp; cases hp)
theorem sortL1_at : sortL1 (2 * 116) = pureFn true (FA fun a : TStamp × TStamp => p_impl_StampLess a.1 a.2) := by
  unfold sortL1
  exact mkEnv_at (by rfl)
theorem sort_less : PureOK Try.prog 115 true (FA fun a : Int × Int × PtrL TMove => p_impl_readTree_1 a.1 a.2.1 a.2.2) := pure_tells sortL1_ok sortL1_pur (md := Md) (by kernel_rfl) (A := c_impl_readTree_1 116) (by kernel_rfl) (by
  rintro ⟨x, y, z⟩ b hb
  exact d_impl_readTree_1 sortL1_at x y z hb)
noncomputable def sortI : TypeInfo := (Try.prog.info? 65).get (by kernel_rfl)
noncomputable def sortE : TypeInfo := (Try.prog.info? 130).get (by kernel_rfl)
theorem sortK (n : Nat) (h2 : 2 ≤ n) : Go.Lib.swapperK n sortE 25 = 9 := by
  have a : sortE.hasPointers = true := by kernel_rfl
  have b : (sortE.bytes == 8) = false := by kernel_rfl
  have c : (n == 0) = false := by simp; omega
  have d : (n == 1) = false := by simp; omega
  simp [Go.Lib.swapperK, a, b, c, d]
theorem sortW : ∀ n, 2 ≤ n → Try.prog.funcs.findIdx? (·.name == "internal/reflectlite" ++ ".Swapper$" ++ toString (Go.Lib.swapperK n sortE 25)) = some 130 := by
  intro n h
  rw [sortK n h]
  kernel_rfl
theorem sortF : ∀ n, ∃ f, Try.prog.funcs.findIdx? (·.name == "internal/reflectlite" ++ ".Swapper$" ++ toString (Go.Lib.swapperK n sortE 25)) = some f := by
  intro n
  match n with
  | 0 => exact ⟨122, by kernel_rfl⟩
  | 1 => exact ⟨123, by kernel_rfl⟩
  | n + 2 => exact ⟨130, sortW (n + 2) (by omega)⟩
theorem sort_swap : FunOK Try.prog 130 (swapFn 5 (typeHandle Try.prog 130)) := swapFn_ok (ie := sortE) false (fun args W => Go.run_callFunc_extern Try.func130 (by kernel_rfl) (by kernel_rfl) (by kernel_rfl) (e := Extern.ReflectliteSwapper.swap false) (by kernel_rfl) args W) (by kernel_rfl) (by kernel_rfl) (fun _ => by kernel_rfl)
theorem sort_next : PureOK Try.prog 143 true nextF := next_ok (by kernel_rfl) (fun n hn w => Go.Proofs.Any.nextPowerOfTwo (P := Try.prog) (ρ := sort_ren) { sort_lays with } n hn w)
noncomputable def sortBs : Env := sortBase 130 5 (typeHandle Try.prog 130) [(115, true, FA fun a : Int × Int × PtrL TMove => p_impl_readTree_1 a.1 a.2.1 a.2.2), (143, true, nextF)]
theorem sortBs_ok : EnvOK Try.prog sortBs := sortBase_ok sort_swap (by
  intro p hp
  simp only [List.mem_cons, List.not_mem_nil, or_false] at hp
  rcases hp with rfl | rfl
  · exact sort_less
  · exact sort_next)
noncomputable def sliceF : Fun := sliceFn Try.prog sortBs sortTab (c_sort_pdqsort_func 133 134 135 136 137 138 139 140 108) 65 5 130 (typeHandle Try.prog 130)
theorem y75 : FunOK Try.prog 75 sliceF := sliceFn_ok (ρ := sort_ren) sort_lays 65 130 sortI sortE (by kernel_rfl) (by kernel_rfl) (by kernel_rfl) (by kernel_rfl) 25 (fun _ => by kernel_rfl) 130 sortF sortW (by kernel_rfl) (fun n => envN_ok sortBs_ok sortTab_ok n) (md := Md) (by kernel_rfl) rfl 5
theorem ko_sort_Slice : k_sort_Slice sliceF := k_slice_holds sortTab_T (fun h l hl => by
  unfold sortBs
  rw [sortBase_at (by decide), mkEnv_at (fr := true) (F := nextF) (by rfl)]
  exact next_at hl h) sortBase_swap (by
  unfold sortBs
  rw [sortBase_at (by decide)]
  exact mkEnv_at (by rfl))
noncomputable def e117 : Env := mkEnv [] []
theorem e117_ok : EnvOK Try.prog e117 := mkEnv_ok (by intro p hp; cases hp) (by intro p hp; cases hp)
theorem w117_pur : ∀ c, opens Ap c = true → PurEnv e117 c := mkEnv_pur _ _ (by intro p hp; cases hp)
theorem o117 : PureOK Try.prog 117 true (FA fun a : Option TTree × TMove => p_impl_tree_ring a.1 a.2) := pure_tells e117_ok w117_pur (md := Md) (by kernel_rfl) (A := c_impl_tree_ring) (by kernel_rfl) (by
  rintro ⟨x, y⟩ b hb
  exact d_impl_tree_ring x y hb)
noncomputable def e86 : Env := mkEnv [(113, true, FA fun a : TStamp => p_impl_StampOK a), (114, true, FA fun a : TMove => p_impl_moveOK a), (117, true, FA fun a : Option TTree × TMove => p_impl_tree_ring a.1 a.2)] [(75, sliceF)]
theorem e86_ok : EnvOK Try.prog e86 := mkEnv_ok (by
  intro p hp
  simp only [List.mem_cons, List.not_mem_nil, or_false] at hp
  rcases hp with rfl | rfl | rfl
  · exact o113
  · exact o114
  · exact o117) (by
  intro p hp
  simp only [List.mem_cons, List.not_mem_nil, or_false] at hp
  subst hp
  exact y75)
theorem w86_pur : ∀ c, opens Ap c = true → PurEnv e86 c := mkEnv_pur _ _ (by
  intro p hp
  simp only [List.mem_cons, List.not_mem_nil, or_false] at hp
  subst hp
  intro h; exact absurd h (by rw [show Ap 75 = false from rfl]; exact Bool.false_ne_true))
theorem u86_113 : e86 (2 * 113) = pureFn true (FA fun a : TStamp => p_impl_StampOK a) := by
  unfold e86
  exact mkEnv_at (by rfl)
theorem u86_114 : e86 (2 * 114) = pureFn true (FA fun a : TMove => p_impl_moveOK a) := by
  unfold e86
  exact mkEnv_at (by rfl)
theorem u86_117 : e86 (2 * 117) = pureFn true (FA fun a : Option TTree × TMove => p_impl_tree_ring a.1 a.2) := by
  unfold e86
  exact mkEnv_at (by rfl)
theorem x86_75 : k_sort_Slice (e86 (2 * 75 + 1)) := by
  unfold e86
  rw [mkEnv_own (g := sliceF) (by rfl)]
  exact ko_sort_Slice
theorem y86 : FunOK Try.prog 86 (runIn Try.prog e86 (c_impl_readTree 113 114 75 117 115)) := runIn_ok e86_ok w86_pur (md := Md) (by kernel_rfl) (by kernel_rfl)
noncomputable def e43 : Env := mkEnv [] [(86, (runIn Try.prog e86 (c_impl_readTree 113 114 75 117 115)))]
theorem e43_ok : EnvOK Try.prog e43 := mkEnv_ok (by intro p hp; cases hp) (by
  intro p hp
  simp only [List.mem_cons, List.not_mem_nil, or_false] at hp
  subst hp
  exact y86)
theorem w43_pur : ∀ c, opens Ap c = true → PurEnv e43 c := mkEnv_pur _ _ (by
  intro p hp
  simp only [List.mem_cons, List.not_mem_nil, or_false] at hp
  subst hp
  intro h; exact absurd h (by rw [show Ap 86 = false from rfl]; exact Bool.false_ne_true))
theorem x43_86 : k_impl_readTree (e43 (2 * 86 + 1)) := by
  unfold e43
  rw [mkEnv_own (g := (runIn Try.prog e86 (c_impl_readTree 113 114 75 117 115))) (by rfl)]
  exact ko_impl_readTree u86_113 u86_114 u86_117 x86_75
theorem y43 : FunOK Try.prog 43 (ownFnV [(3, true), (2, true), (0, false)] (ownFn Try.prog e43 (c_impl_TreeOf 86))) := ownFnV_ok (by kernel_rfl) (own_fnOK e43_ok w43_pur (md := Md) (by kernel_rfl))
noncomputable def e88 : Env := mkEnv [] []
theorem e88_ok : EnvOK Try.prog e88 := mkEnv_ok (by intro p hp; cases hp) (by intro p hp; cases hp)
theorem w88_pur : ∀ c, opens Ap c = true → PurEnv e88 c := mkEnv_pur _ _ (by intro p hp; cases hp)
theorem o88 : PureOK Try.prog 88 true (FA fun a : TNode × TNode => p_laws_eqTreeNode a.1 a.2) := pure_tells e88_ok w88_pur (md := Md) (by kernel_rfl) (A := c_laws_eqTreeNode) (by kernel_rfl) (by
  rintro ⟨x, y⟩ b hb
  exact d_laws_eqTreeNode x y hb)
noncomputable def e44 : Env := mkEnv [(88, true, FA fun a : TNode × TNode => p_laws_eqTreeNode a.1 a.2)] []
theorem e44_ok : EnvOK Try.prog e44 := mkEnv_ok (by
  intro p hp
  simp only [List.mem_cons, List.not_mem_nil, or_false] at hp
  subst hp
  exact o88) (by intro p hp; cases hp)
theorem w44_pur : ∀ c, opens Ap c = true → PurEnv e44 c := mkEnv_pur _ _ (by intro p hp; cases hp)
theorem u44_88 : e44 (2 * 88) = pureFn true (FA fun a : TNode × TNode => p_laws_eqTreeNode a.1 a.2) := by
  unfold e44
  exact mkEnv_at (by rfl)
theorem o44 : PureOK Try.prog 44 true (FA fun a : List TNode × List TNode => p_laws_eqTreeNodeS a.1 a.2) := pure_tells e44_ok w44_pur (md := Md) (by kernel_rfl) (A := c_laws_eqTreeNodeS 88) (by kernel_rfl) (by
  rintro ⟨x, y⟩ b hb
  exact d_laws_eqTreeNodeS u44_88 x y hb)
noncomputable def e89 : Env := mkEnv [] []
theorem e89_ok : EnvOK Try.prog e89 := mkEnv_ok (by intro p hp; cases hp) (by intro p hp; cases hp)
theorem w89_pur : ∀ c, opens Ap c = true → PurEnv e89 c := mkEnv_pur _ _ (by intro p hp; cases hp)
theorem o89 : PureOK Try.prog 89 true (FA fun a : TStamp × TStamp => p_laws_eqStamp a.1 a.2) := pure_tells e89_ok w89_pur (md := Md) (by kernel_rfl) (A := c_laws_eqStamp) (by kernel_rfl) (by
  rintro ⟨x, y⟩ b hb
  exact d_laws_eqStamp x y hb)
noncomputable def e45 : Env := mkEnv [(89, true, FA fun a : TStamp × TStamp => p_laws_eqStamp a.1 a.2)] []
theorem e45_ok : EnvOK Try.prog e45 := mkEnv_ok (by
  intro p hp
  simp only [List.mem_cons, List.not_mem_nil, or_false] at hp
  subst hp
  exact o89) (by intro p hp; cases hp)
theorem w45_pur : ∀ c, opens Ap c = true → PurEnv e45 c := mkEnv_pur _ _ (by intro p hp; cases hp)
theorem u45_89 : e45 (2 * 89) = pureFn true (FA fun a : TStamp × TStamp => p_laws_eqStamp a.1 a.2) := by
  unfold e45
  exact mkEnv_at (by rfl)
theorem o45 : PureOK Try.prog 45 true (FA fun a : List TStamp × List TStamp => p_laws_eqStampS a.1 a.2) := pure_tells e45_ok w45_pur (md := Md) (by kernel_rfl) (A := c_laws_eqStampS 89) (by kernel_rfl) (by
  rintro ⟨x, y⟩ b hb
  exact d_laws_eqStampS u45_89 x y hb)
noncomputable def e87 : Env := mkEnv [(89, true, FA fun a : TStamp × TStamp => p_laws_eqStamp a.1 a.2)] []
theorem e87_ok : EnvOK Try.prog e87 := mkEnv_ok (by
  intro p hp
  simp only [List.mem_cons, List.not_mem_nil, or_false] at hp
  subst hp
  exact o89) (by intro p hp; cases hp)
theorem w87_pur : ∀ c, opens Ap c = true → PurEnv e87 c := mkEnv_pur _ _ (by intro p hp; cases hp)
theorem u87_89 : e87 (2 * 89) = pureFn true (FA fun a : TStamp × TStamp => p_laws_eqStamp a.1 a.2) := by
  unfold e87
  exact mkEnv_at (by rfl)
theorem o87 : PureOK Try.prog 87 true (FA fun a : TMove × TMove => p_laws_eqMoveOp a.1 a.2) := pure_tells e87_ok w87_pur (md := Md) (by kernel_rfl) (A := c_laws_eqMoveOp 89) (by kernel_rfl) (by
  rintro ⟨x, y⟩ b hb
  exact d_laws_eqMoveOp u87_89 x y hb)
noncomputable def e41 : Env := mkEnv [(87, true, FA fun a : TMove × TMove => p_laws_eqMoveOp a.1 a.2)] []
theorem e41_ok : EnvOK Try.prog e41 := mkEnv_ok (by
  intro p hp
  simp only [List.mem_cons, List.not_mem_nil, or_false] at hp
  subst hp
  exact o87) (by intro p hp; cases hp)
theorem w41_pur : ∀ c, opens Ap c = true → PurEnv e41 c := mkEnv_pur _ _ (by intro p hp; cases hp)
theorem u41_87 : e41 (2 * 87) = pureFn true (FA fun a : TMove × TMove => p_laws_eqMoveOp a.1 a.2) := by
  unfold e41
  exact mkEnv_at (by rfl)
theorem o41 : PureOK Try.prog 41 true (FA fun a : List TMove × List TMove => p_laws_eqMoveOpS a.1 a.2) := pure_tells e41_ok w41_pur (md := Md) (by kernel_rfl) (A := c_laws_eqMoveOpS 87) (by kernel_rfl) (by
  rintro ⟨x, y⟩ b hb
  exact d_laws_eqMoveOpS u41_87 x y hb)
noncomputable def e79 : Env := mkEnv [] []
theorem e79_ok : EnvOK Try.prog e79 := mkEnv_ok (by intro p hp; cases hp) (by intro p hp; cases hp)
theorem w79_pur : ∀ c, opens Ap c = true → PurEnv e79 c := mkEnv_pur _ _ (by intro p hp; cases hp)
theorem o79 : PureOK Try.prog 79 true (FA fun a : Int => p_laws_markText a) := pure_tells e79_ok w79_pur (md := Md) (by kernel_rfl) (A := c_laws_markText) (by kernel_rfl) (by
  rintro x b hb
  exact d_laws_markText x hb)
noncomputable def e46 : Env := mkEnv [(79, true, FA fun a : Int => p_laws_markText a)] []
theorem e46_ok : EnvOK Try.prog e46 := mkEnv_ok (by
  intro p hp
  simp only [List.mem_cons, List.not_mem_nil, or_false] at hp
  subst hp
  exact o79) (by intro p hp; cases hp)
theorem w46_pur : ∀ c, opens Ap c = true → PurEnv e46 c := mkEnv_pur _ _ (by intro p hp; cases hp)
theorem u46_79 : e46 (2 * 79) = pureFn true (FA fun a : Int => p_laws_markText a) := by
  unfold e46
  exact mkEnv_at (by rfl)
theorem y46 : FunOK Try.prog 46 (runIn Try.prog e46 (c_laws_markMoveOpS 79)) := runIn_ok e46_ok w46_pur (md := Md) (by kernel_rfl) (by kernel_rfl)
noncomputable def e47 : Env := mkEnv [(79, true, FA fun a : Int => p_laws_markText a)] []
theorem e47_ok : EnvOK Try.prog e47 := mkEnv_ok (by
  intro p hp
  simp only [List.mem_cons, List.not_mem_nil, or_false] at hp
  subst hp
  exact o79) (by intro p hp; cases hp)
theorem w47_pur : ∀ c, opens Ap c = true → PurEnv e47 c := mkEnv_pur _ _ (by intro p hp; cases hp)
theorem u47_79 : e47 (2 * 79) = pureFn true (FA fun a : Int => p_laws_markText a) := by
  unfold e47
  exact mkEnv_at (by rfl)
theorem y47 : FunOK Try.prog 47 (runIn Try.prog e47 (c_laws_markTreeNodeS 79)) := runIn_ok e47_ok w47_pur (md := Md) (by kernel_rfl) (by kernel_rfl)
noncomputable def e48 : Env := mkEnv [] []
theorem e48_ok : EnvOK Try.prog e48 := mkEnv_ok (by intro p hp; cases hp) (by intro p hp; cases hp)
theorem w48_pur : ∀ c, opens Ap c = true → PurEnv e48 c := mkEnv_pur _ _ (by intro p hp; cases hp)
theorem y48 : FunOK Try.prog 48 (runIn Try.prog e48 (c_laws_markStampS)) := runIn_ok e48_ok w48_pur (md := Md) (by kernel_rfl) (by kernel_rfl)
noncomputable def e49 : Env := mkEnv [(79, true, FA fun a : Int => p_laws_markText a)] []
theorem e49_ok : EnvOK Try.prog e49 := mkEnv_ok (by
  intro p hp
  simp only [List.mem_cons, List.not_mem_nil, or_false] at hp
  subst hp
  exact o79) (by intro p hp; cases hp)
theorem w49_pur : ∀ c, opens Ap c = true → PurEnv e49 c := mkEnv_pur _ _ (by intro p hp; cases hp)
theorem u49_79 : e49 (2 * 79) = pureFn true (FA fun a : Int => p_laws_markText a) := by
  unfold e49
  exact mkEnv_at (by rfl)
theorem o49 : PureOK Try.prog 49 true (FA fun a : List TNode × Int => p_laws_heldTreeNodeS a.1 a.2) := pure_tells e49_ok w49_pur (md := Md) (by kernel_rfl) (A := c_laws_heldTreeNodeS 79) (by kernel_rfl) (by
  rintro ⟨x, y⟩ b hb
  exact d_laws_heldTreeNodeS u49_79 x y hb)
noncomputable def e50 : Env := mkEnv [] []
theorem e50_ok : EnvOK Try.prog e50 := mkEnv_ok (by intro p hp; cases hp) (by intro p hp; cases hp)
theorem w50_pur : ∀ c, opens Ap c = true → PurEnv e50 c := mkEnv_pur _ _ (by intro p hp; cases hp)
theorem o50 : PureOK Try.prog 50 true (FA fun a : List TStamp × Int => p_laws_heldStampS a.1 a.2) := pure_tells e50_ok w50_pur (md := Md) (by kernel_rfl) (A := c_laws_heldStampS) (by kernel_rfl) (by
  rintro ⟨x, y⟩ b hb
  exact d_laws_heldStampS x y hb)
noncomputable def e8 : Env := mkEnv [(37, true, FA fun a : List TMove × Int => p_laws_szMoveOpS a.1 a.2), (39, true, FA fun a : List TMove => p_laws_toMoveOpS a), (42, false, FA fun a : List TMove => p_spec_TreeOf a), (44, true, FA fun a : List TNode × List TNode => p_laws_eqTreeNodeS a.1 a.2), (45, true, FA fun a : List TStamp × List TStamp => p_laws_eqStampS a.1 a.2), (41, true, FA fun a : List TMove × List TMove => p_laws_eqMoveOpS a.1 a.2), (49, true, FA fun a : List TNode × Int => p_laws_heldTreeNodeS a.1 a.2), (50, true, FA fun a : List TStamp × Int => p_laws_heldStampS a.1 a.2)] [(39, (ownFn Try.prog e39 (c_laws_toMoveOpS 85))), (43, (ownFnV [(3, true), (2, true), (0, false)] (ownFn Try.prog e43 (c_impl_TreeOf 86)))), (46, (runIn Try.prog e46 (c_laws_markMoveOpS 79))), (47, (runIn Try.prog e47 (c_laws_markTreeNodeS 79))), (48, (runIn Try.prog e48 (c_laws_markStampS)))]
theorem e8_ok : EnvOK Try.prog e8 := mkEnv_ok (by
  intro p hp
  simp only [List.mem_cons, List.not_mem_nil, or_false] at hp
  rcases hp with rfl | rfl | rfl | rfl | rfl | rfl | rfl | rfl
  · exact o37
  · exact o39
  · exact o42
  · exact o44
  · exact o45
  · exact o41
  · exact o49
  · exact o50) (by
  intro p hp
  simp only [List.mem_cons, List.not_mem_nil, or_false] at hp
  rcases hp with rfl | rfl | rfl | rfl | rfl
  · exact y39
  · exact y43
  · exact y46
  · exact y47
  · exact y48)
theorem w8_pur : ∀ c, opens ApL c = true → PurEnv e8 c := mkEnv_pur _ _ (by
  intro p hp
  simp only [List.mem_cons, List.not_mem_nil, or_false] at hp
  rcases hp with rfl | rfl | rfl | rfl | rfl
  · intro h; exact absurd h (by rw [show ApL 39 = false from rfl]; exact Bool.false_ne_true)
  · intro h; exact absurd h (by rw [show ApL 43 = false from rfl]; exact Bool.false_ne_true)
  · intro h; exact absurd h (by rw [show ApL 46 = false from rfl]; exact Bool.false_ne_true)
  · intro h; exact absurd h (by rw [show ApL 47 = false from rfl]; exact Bool.false_ne_true)
  · intro h; exact absurd h (by rw [show ApL 48 = false from rfl]; exact Bool.false_ne_true))
theorem u8_37 : e8 (2 * 37) = pureFn true (FA fun a : List TMove × Int => p_laws_szMoveOpS a.1 a.2) := by
  unfold e8
  exact mkEnv_at (by rfl)
theorem u8_39 : e8 (2 * 39) = pureFn true (FA fun a : List TMove => p_laws_toMoveOpS a) := by
  unfold e8
  exact mkEnv_at (by rfl)
theorem u8_42 : e8 (2 * 42) = pureFn false (FA fun a : List TMove => p_spec_TreeOf a) := by
  unfold e8
  exact mkEnv_at (by rfl)
theorem u8_44 : e8 (2 * 44) = pureFn true (FA fun a : List TNode × List TNode => p_laws_eqTreeNodeS a.1 a.2) := by
  unfold e8
  exact mkEnv_at (by rfl)
theorem u8_45 : e8 (2 * 45) = pureFn true (FA fun a : List TStamp × List TStamp => p_laws_eqStampS a.1 a.2) := by
  unfold e8
  exact mkEnv_at (by rfl)
theorem u8_41 : e8 (2 * 41) = pureFn true (FA fun a : List TMove × List TMove => p_laws_eqMoveOpS a.1 a.2) := by
  unfold e8
  exact mkEnv_at (by rfl)
theorem u8_49 : e8 (2 * 49) = pureFn true (FA fun a : List TNode × Int => p_laws_heldTreeNodeS a.1 a.2) := by
  unfold e8
  exact mkEnv_at (by rfl)
theorem u8_50 : e8 (2 * 50) = pureFn true (FA fun a : List TStamp × Int => p_laws_heldStampS a.1 a.2) := by
  unfold e8
  exact mkEnv_at (by rfl)
theorem x8_39 : k_laws_toMoveOpS (e8 (2 * 39 + 1)) := by
  unfold e8
  rw [mkEnv_own (g := (ownFn Try.prog e39 (c_laws_toMoveOpS 85))) (by rfl)]
  exact ko_laws_toMoveOpS u39_85
theorem x8_43 : k_impl_TreeOf (e8 (2 * 43 + 1)) := by
  unfold e8
  rw [mkEnv_own (g := (ownFnV [(3, true), (2, true), (0, false)] (ownFn Try.prog e43 (c_impl_TreeOf 86)))) (by rfl)]
  exact ko_impl_TreeOf x43_86
theorem x8_46 : k_laws_markMoveOpS (e8 (2 * 46 + 1)) := by
  unfold e8
  rw [mkEnv_own (g := (runIn Try.prog e46 (c_laws_markMoveOpS 79))) (by rfl)]
  exact ko_laws_markMoveOpS u46_79
theorem x8_47 : k_laws_markTreeNodeS (e8 (2 * 47 + 1)) := by
  unfold e8
  rw [mkEnv_own (g := (runIn Try.prog e47 (c_laws_markTreeNodeS 79))) (by rfl)]
  exact ko_laws_markTreeNodeS u47_79
theorem x8_48 : k_laws_markStampS (e8 (2 * 48 + 1)) := by
  unfold e8
  rw [mkEnv_own (g := (runIn Try.prog e48 (c_laws_markStampS))) (by rfl)]
  exact ko_laws_markStampS
theorem law : LawOK Try.prog 8 [.sl 48 (.st [.st [.int .i64, .int .i64], .int .i64, .int .i64, .str])] := law_of_run e8_ok w8_pur (md := MdL) (A := c_laws_FnExactTreeOf 37 39 42 43 44 45 41 46 47 48 49 50) (by kernel_rfl) (by
  intro xs hx
  cases hx with
  | cons h0 hx =>
  cases hx
  obtain ⟨a0, rfl, k0⟩ := fit_sl (α := TMove) rfl (fun x hx => fit_TMove hx) h0
  exact d_laws_FnExactTreeOf u8_37 u8_39 u8_42 u8_44 u8_45 u8_41 u8_49 u8_50 x8_39 x8_43 x8_46 x8_47 x8_48 a0 (plain_TreeOf a0 k0))
theorem own : ownKnob Try.prog.godebug = none := by kernel_rfl
theorem laidOut : laidOutB Try.prog = true := by kernel_rfl
set_option maxRecDepth 100000 in
theorem lifted (os : Os) (started : os.Started) (H : Type) (enc : TypeId × Value → H) :
    ReturnsInHanded {} Try.checked os 8 .any (Rows.fnExactTreeOfSpec.pre6 enc Try.prog Try.f8 Rows.fnExactTreeOfRow.domain false) (Rows.fnExactTreeOfSpec.post enc Try.prog Try.f8 false true false false) := by
  refine returnsInHanded_of_change_sized (C := Try.checked) own started (by kernel_rfl) Try.func8
    (ChangeSpec.witness6 (enc := enc) (C := Try.checked) false ⟨#[], #[.slice none 0 0], []⟩ 8 (by kernel_rfl) (by kernel_rfl) (by kernel_rfl) (by kernel_rfl)) ?_
  intro W base args ds gs before hval hW hcnd hsz _
  refine law_contract (n := 8) (tb := 4) (shs := [.sl 48 (.st [.st [.int .i64, .int .i64], .int .i64, .int .i64, .str])]) laidOut rfl ?_ (by kernel_rfl) Try.underlying4 (by kernel_rfl) (by kernel_rfl) law W base args ds gs before hval hW hsz
  intro ds hds
  have h1 : ds.length = 1 := hds
  match ds, h1 with
  | [d0], _ => rfl
theorem over : Rows.fnExactTreeOfRow.holds Try.pinned (OpenSpec.ofChange Rows.fnExactTreeOfSpec) :=
  OpenClaim.holds_of_wide 8 Try.f8 rfl rfl rfl rfl rfl rfl rfl ⟨rfl, rfl, rfl, rfl, rfl⟩ rfl rfl rfl rfl rfl (by kernel_rfl) Try.func8 (by kernel_rfl)
    (of_decide_eq_true (by kernel_rfl)) (by unfold Func.isWrapper; first | (rw [if_pos (by decide +kernel)]; kernel_rfl) | (rw [if_neg (by decide +kernel)]; exact ⟨rfl, rfl⟩))
    (fun os started H enc _ => lifted os started H enc)
theorem proved : Rows.FnExactTreeOfSaid := over
#print axioms proved
end Go.Proofs.Ytogokiglmhnjkaa.RFnExactTreeOf
namespace Go.Proofs.Ytogokiglmhnjkaa
/-- The row, under a short name, for the claim. -/
theorem fnExactTreeOf_holds : Rows.FnExactTreeOfSaid := RFnExactTreeOf.proved
end Go.Proofs.Ytogokiglmhnjkaa
