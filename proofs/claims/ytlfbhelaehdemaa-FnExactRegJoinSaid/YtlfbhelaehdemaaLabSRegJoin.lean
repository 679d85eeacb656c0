/- The law FnExactRegJoin: its functions' contracts, its run, its row. No condition. -/
import Derived.Test.YtlfbhelaehdemaaRows
import Derived.Test.YtlfbhelaehdemaaLabPRegJoin
import Derived.WalkKit
import Derived.ProofKit
set_option linter.unusedVariables false
namespace Go.Proofs.Ytlfbhelaehdemaa.RFnExactRegJoin
open Go.AM
open Pic (enc dec dec_enc dec_sub)
def Md : Modes := fun f => if f == 21 then 1 else if f == 25 then 1 else if f == 26 then 2 else if f == 30 then 1 else if f == 39 then 1 else if f == 46 then 1 else if f == 51 then 1 else if f == 52 then 2 else if f == 58 then 2 else if f == 60 then 1 else if f == 66 then 2 else if f == 68 then 2 else if f == 73 then 2 else 0
def e33 : Env := mkEnv [] []
theorem e33_ok : EnvOK Try.prog e33 := mkEnv_ok (by
  intro p hp
  cases hp) (by intro p hp; cases hp)
theorem o33 : PureOK Try.prog 33 true (FA fun a : TReg × Int => p_laws_szReg a.1 a.2) := pure_tells e33_ok (mkEnv_pur _ _) (md := Md) (by kernel_rfl) (A := c_laws_szReg) (by kernel_rfl) (by
  rintro ⟨x, y⟩ b hb
  exact d_laws_szReg x y hb)
def e16 : Env := mkEnv [] []
theorem e16_ok : EnvOK Try.prog e16 := mkEnv_ok (by
  intro p hp
  cases hp) (by intro p hp; cases hp)
theorem o16 : PureOK Try.prog 16 true (FA fun a : TStamp => p_laws_toStamp a) := pure_tells e16_ok (mkEnv_pur _ _) (md := Md) (by kernel_rfl) (A := c_laws_toStamp) (by kernel_rfl) (by
  rintro x b hb
  exact d_laws_toStamp x hb)
def e35 : Env := mkEnv [(16, true, FA fun a : TStamp => p_laws_toStamp a)] []
theorem e35_ok : EnvOK Try.prog e35 := mkEnv_ok (by
  intro p hp
  simp only [List.mem_cons, List.not_mem_nil, or_false] at hp
  subst hp
  exact o16) (by intro p hp; cases hp)
theorem u35_16 : e35 (2 * 16) = pureFn true (FA fun a : TStamp => p_laws_toStamp a) := by
  unfold e35
  exact mkEnv_at (by rfl)
theorem o35 : PureOK Try.prog 35 true (FA fun a : TReg => p_laws_toReg a) := pure_tells e35_ok (mkEnv_pur _ _) (md := Md) (by kernel_rfl) (A := c_laws_toReg 16) (by kernel_rfl) (by
  rintro x b hb
  exact d_laws_toReg u35_16 x hb)
def e71 : Env := mkEnv [] []
theorem e71_ok : EnvOK Try.prog e71 := mkEnv_ok (by
  intro p hp
  cases hp) (by intro p hp; cases hp)
theorem o71 : PureOK Try.prog 71 true (FA fun a : TStamp => p_spec_l02None a) := pure_tells e71_ok (mkEnv_pur _ _) (md := Md) (by kernel_rfl) (A := c_spec_l02None) (by kernel_rfl) (by
  rintro x b hb
  exact d_spec_l02None x hb)
def e15 : Env := mkEnv [] []
theorem e15_ok : EnvOK Try.prog e15 := mkEnv_ok (by
  intro p hp
  cases hp) (by intro p hp; cases hp)
theorem o15 : PureOK Try.prog 15 true (FA fun a : TStamp => p_spec_StampOK a) := pure_tells e15_ok (mkEnv_pur _ _) (md := Md) (by kernel_rfl) (A := c_spec_StampOK) (by kernel_rfl) (by
  rintro x b hb
  exact d_spec_StampOK x hb)
def e62 : Env := mkEnv [(71, true, FA fun a : TStamp => p_spec_l02None a), (15, true, FA fun a : TStamp => p_spec_StampOK a)] []
theorem e62_ok : EnvOK Try.prog e62 := mkEnv_ok (by
  intro p hp
  simp only [List.mem_cons, List.not_mem_nil, or_false] at hp
  rcases hp with rfl | rfl
  · exact o71
  · exact o15) (by intro p hp; cases hp)
theorem u62_71 : e62 (2 * 71) = pureFn true (FA fun a : TStamp => p_spec_l02None a) := by
  unfold e62
  exact mkEnv_at (by rfl)
theorem u62_15 : e62 (2 * 15) = pureFn true (FA fun a : TStamp => p_spec_StampOK a) := by
  unfold e62
  exact mkEnv_at (by rfl)
theorem o62 : PureOK Try.prog 62 true (FA fun a : TReg => p_spec_l03RegOK a) := pure_tells e62_ok (mkEnv_pur _ _) (md := Md) (by kernel_rfl) (A := c_spec_l03RegOK 71 15) (by kernel_rfl) (by
  rintro x b hb
  exact d_spec_l03RegOK u62_71 u62_15 x hb)
def e18 : Env := mkEnv [] []
theorem e18_ok : EnvOK Try.prog e18 := mkEnv_ok (by
  intro p hp
  cases hp) (by intro p hp; cases hp)
theorem o18 : PureOK Try.prog 18 true (FA fun a : TStamp × TStamp => p_spec_StampLess a.1 a.2) := pure_tells e18_ok (mkEnv_pur _ _) (md := Md) (by kernel_rfl) (A := c_spec_StampLess) (by kernel_rfl) (by
  rintro ⟨x, y⟩ b hb
  exact d_spec_StampLess x y hb)
def e34 : Env := mkEnv [(62, true, FA fun a : TReg => p_spec_l03RegOK a), (18, true, FA fun a : TStamp × TStamp => p_spec_StampLess a.1 a.2)] []
theorem e34_ok : EnvOK Try.prog e34 := mkEnv_ok (by
  intro p hp
  simp only [List.mem_cons, List.not_mem_nil, or_false] at hp
  rcases hp with rfl | rfl
  · exact o62
  · exact o18) (by intro p hp; cases hp)
theorem u34_62 : e34 (2 * 62) = pureFn true (FA fun a : TReg => p_spec_l03RegOK a) := by
  unfold e34
  exact mkEnv_at (by rfl)
theorem u34_18 : e34 (2 * 18) = pureFn true (FA fun a : TStamp × TStamp => p_spec_StampLess a.1 a.2) := by
  unfold e34
  exact mkEnv_at (by rfl)
theorem o34 : PureOK Try.prog 34 true (FA fun a : TReg × TReg => p_spec_RegJoin a.1 a.2) := pure_tells e34_ok (mkEnv_pur _ _) (md := Md) (by kernel_rfl) (A := c_spec_RegJoin 62 18) (by kernel_rfl) (by
  rintro ⟨x, y⟩ b hb
  exact d_spec_RegJoin u34_62 u34_18 x y hb)
def e54 : Env := mkEnv [] []
theorem e54_ok : EnvOK Try.prog e54 := mkEnv_ok (by
  intro p hp
  cases hp) (by intro p hp; cases hp)
theorem o54 : PureOK Try.prog 54 true (FA fun a : Int => p_impl_isActor a) := pure_tells e54_ok (mkEnv_pur _ _) (md := Md) (by kernel_rfl) (A := c_impl_isActor) (by kernel_rfl) (by
  rintro x b hb
  exact d_impl_isActor x hb)
def e17 : Env := mkEnv [(54, true, FA fun a : Int => p_impl_isActor a)] []
theorem e17_ok : EnvOK Try.prog e17 := mkEnv_ok (by
  intro p hp
  simp only [List.mem_cons, List.not_mem_nil, or_false] at hp
  subst hp
  exact o54) (by intro p hp; cases hp)
theorem u17_54 : e17 (2 * 54) = pureFn true (FA fun a : Int => p_impl_isActor a) := by
  unfold e17
  exact mkEnv_at (by rfl)
theorem o17 : PureOK Try.prog 17 true (FA fun a : TStamp => p_impl_StampOK a) := pure_tells e17_ok (mkEnv_pur _ _) (md := Md) (by kernel_rfl) (A := c_impl_StampOK 54) (by kernel_rfl) (by
  rintro x b hb
  exact d_impl_StampOK u17_54 x hb)
def e63 : Env := mkEnv [(17, true, FA fun a : TStamp => p_impl_StampOK a)] []
theorem e63_ok : EnvOK Try.prog e63 := mkEnv_ok (by
  intro p hp
  simp only [List.mem_cons, List.not_mem_nil, or_false] at hp
  subst hp
  exact o17) (by intro p hp; cases hp)
theorem u63_17 : e63 (2 * 17) = pureFn true (FA fun a : TStamp => p_impl_StampOK a) := by
  unfold e63
  exact mkEnv_at (by rfl)
theorem o63 : PureOK Try.prog 63 true (FA fun a : TReg => p_impl_regOK a) := pure_tells e63_ok (mkEnv_pur _ _) (md := Md) (by kernel_rfl) (A := c_impl_regOK 17) (by kernel_rfl) (by
  rintro x b hb
  exact d_impl_regOK u63_17 x hb)
def e19 : Env := mkEnv [] []
theorem e19_ok : EnvOK Try.prog e19 := mkEnv_ok (by
  intro p hp
  cases hp) (by intro p hp; cases hp)
theorem o19 : PureOK Try.prog 19 true (FA fun a : TStamp × TStamp => p_impl_StampLess a.1 a.2) := pure_tells e19_ok (mkEnv_pur _ _) (md := Md) (by kernel_rfl) (A := c_impl_StampLess) (by kernel_rfl) (by
  rintro ⟨x, y⟩ b hb
  exact d_impl_StampLess x y hb)
def e36 : Env := mkEnv [(63, true, FA fun a : TReg => p_impl_regOK a), (19, true, FA fun a : TStamp × TStamp => p_impl_StampLess a.1 a.2)] []
theorem e36_ok : EnvOK Try.prog e36 := mkEnv_ok (by
  intro p hp
  simp only [List.mem_cons, List.not_mem_nil, or_false] at hp
  rcases hp with rfl | rfl
  · exact o63
  · exact o19) (by intro p hp; cases hp)
theorem u36_63 : e36 (2 * 63) = pureFn true (FA fun a : TReg => p_impl_regOK a) := by
  unfold e36
  exact mkEnv_at (by rfl)
theorem u36_19 : e36 (2 * 19) = pureFn true (FA fun a : TStamp × TStamp => p_impl_StampLess a.1 a.2) := by
  unfold e36
  exact mkEnv_at (by rfl)
theorem o36 : PureOK Try.prog 36 true (FA fun a : TReg × TReg => p_impl_RegJoin a.1 a.2) := pure_tells e36_ok (mkEnv_pur _ _) (md := Md) (by kernel_rfl) (A := c_impl_RegJoin 63 19) (by kernel_rfl) (by
  rintro ⟨x, y⟩ b hb
  exact d_impl_RegJoin u36_63 u36_19 x y hb)
def e48 : Env := mkEnv [] []
theorem e48_ok : EnvOK Try.prog e48 := mkEnv_ok (by
  intro p hp
  cases hp) (by intro p hp; cases hp)
theorem o48 : PureOK Try.prog 48 true (FA fun a : TStamp × TStamp => p_laws_eqStamp a.1 a.2) := pure_tells e48_ok (mkEnv_pur _ _) (md := Md) (by kernel_rfl) (A := c_laws_eqStamp) (by kernel_rfl) (by
  rintro ⟨x, y⟩ b hb
  exact d_laws_eqStamp x y hb)
def e37 : Env := mkEnv [(48, true, FA fun a : TStamp × TStamp => p_laws_eqStamp a.1 a.2)] []
theorem e37_ok : EnvOK Try.prog e37 := mkEnv_ok (by
  intro p hp
  simp only [List.mem_cons, List.not_mem_nil, or_false] at hp
  subst hp
  exact o48) (by intro p hp; cases hp)
theorem u37_48 : e37 (2 * 48) = pureFn true (FA fun a : TStamp × TStamp => p_laws_eqStamp a.1 a.2) := by
  unfold e37
  exact mkEnv_at (by rfl)
theorem o37 : PureOK Try.prog 37 true (FA fun a : TReg × TReg => p_laws_eqReg a.1 a.2) := pure_tells e37_ok (mkEnv_pur _ _) (md := Md) (by kernel_rfl) (A := c_laws_eqReg 48) (by kernel_rfl) (by
  rintro ⟨x, y⟩ b hb
  exact d_laws_eqReg u37_48 x y hb)
def e9 : Env := mkEnv [(33, true, FA fun a : TReg × Int => p_laws_szReg a.1 a.2), (35, true, FA fun a : TReg => p_laws_toReg a), (34, true, FA fun a : TReg × TReg => p_spec_RegJoin a.1 a.2), (36, true, FA fun a : TReg × TReg => p_impl_RegJoin a.1 a.2), (37, true, FA fun a : TReg × TReg => p_laws_eqReg a.1 a.2)] []
theorem e9_ok : EnvOK Try.prog e9 := mkEnv_ok (by
  intro p hp
  simp only [List.mem_cons, List.not_mem_nil, or_false] at hp
  rcases hp with rfl | rfl | rfl | rfl | rfl
  · exact o33
  · exact o35
  · exact o34
  · exact o36
  · exact o37) (by intro p hp; cases hp)
theorem u9_33 : e9 (2 * 33) = pureFn true (FA fun a : TReg × Int => p_laws_szReg a.1 a.2) := by
  unfold e9
  exact mkEnv_at (by rfl)
theorem u9_35 : e9 (2 * 35) = pureFn true (FA fun a : TReg => p_laws_toReg a) := by
  unfold e9
  exact mkEnv_at (by rfl)
theorem u9_34 : e9 (2 * 34) = pureFn true (FA fun a : TReg × TReg => p_spec_RegJoin a.1 a.2) := by
  unfold e9
  exact mkEnv_at (by rfl)
theorem u9_36 : e9 (2 * 36) = pureFn true (FA fun a : TReg × TReg => p_impl_RegJoin a.1 a.2) := by
  unfold e9
  exact mkEnv_at (by rfl)
theorem u9_37 : e9 (2 * 37) = pureFn true (FA fun a : TReg × TReg => p_laws_eqReg a.1 a.2) := by
  unfold e9
  exact mkEnv_at (by rfl)
theorem law : LawOK Try.prog 9 [.st [.st [.int .i64, .int .i64], .str], .st [.st [.int .i64, .int .i64], .str]] := law_of_run e9_ok (mkEnv_pur _ _) (md := Md) (A := c_laws_FnExactRegJoin 33 35 34 36 37) (by kernel_rfl) (by
  intro xs hx
  cases hx with
  | cons h0 hx =>
  cases hx with
  | cons h1 hx =>
  cases hx
  obtain ⟨a0, rfl, k0⟩ := fit_TReg h0
  obtain ⟨a1, rfl, k1⟩ := fit_TReg h1
  exact d_laws_FnExactRegJoin u9_33 u9_35 u9_34 u9_36 u9_37 a0 a1 (plain_RegJoin a0 a1 k0 k1))
theorem own : ownKnob Try.prog.godebug = none := by kernel_rfl
theorem laidOut : laidOutB Try.prog = true := by kernel_rfl
set_option maxRecDepth 100000 in
theorem lifted (os : Os) (started : os.Started) (H : Type) (enc : TypeId × Value → H) :
    ReturnsInHanded {} Try.checked os 9 .any (Rows.fnExactRegJoinSpec.pre6 enc Try.prog Try.f9 Rows.fnExactRegJoinRow.domain false) (Rows.fnExactRegJoinSpec.post enc Try.prog Try.f9 false true false false) := by
  refine returnsInHanded_of_change_sized (C := Try.checked) own started (by kernel_rfl) Try.func9
    (ChangeSpec.witness6 (enc := enc) (C := Try.checked) false ⟨#[], #[.agg #[.int .i64 0, .int .i64 0, .string ⟨#[]⟩], .agg #[.int .i64 0, .int .i64 0, .string ⟨#[]⟩]], []⟩ 8 (by kernel_rfl) (by kernel_rfl) (by kernel_rfl) (by kernel_rfl)) ?_
  intro W base args ds gs before hval hW hcnd hsz _
  refine law_contract (n := 8) (tb := 4) (shs := [.st [.st [.int .i64, .int .i64], .str], .st [.st [.int .i64, .int .i64], .str]]) laidOut rfl ?_ (by kernel_rfl) Try.underlying4 (by kernel_rfl) (by kernel_rfl) law W base args ds gs before hval hW hsz
  intro ds hds
  have h1 : ds.length = 2 := hds
  match ds, h1 with
  | [d0, d1], _ => rfl
theorem over : Rows.fnExactRegJoinRow.holds Try.pinned (OpenSpec.ofChange Rows.fnExactRegJoinSpec) :=
  OpenClaim.holds_of_wide 9 Try.f9 rfl rfl rfl rfl rfl rfl rfl ⟨rfl, rfl, rfl, rfl, rfl⟩ rfl rfl rfl rfl rfl (by kernel_rfl) Try.func9 (by kernel_rfl)
    (of_decide_eq_true (by kernel_rfl)) (by unfold Func.isWrapper; first | (rw [if_pos (by decide +kernel)]; kernel_rfl) | (rw [if_neg (by decide +kernel)]; exact ⟨rfl, rfl⟩))
    (fun os started H enc _ => lifted os started H enc)
theorem proved : Rows.FnExactRegJoinSaid := over
#print axioms proved
end Go.Proofs.Ytlfbhelaehdemaa.RFnExactRegJoin
namespace Go.Proofs.Ytlfbhelaehdemaa
/-- The row, under a short name, for the claim. -/
theorem fnExactRegJoin_holds : Rows.FnExactRegJoinSaid := RFnExactRegJoin.proved
end Go.Proofs.Ytlfbhelaehdemaa
