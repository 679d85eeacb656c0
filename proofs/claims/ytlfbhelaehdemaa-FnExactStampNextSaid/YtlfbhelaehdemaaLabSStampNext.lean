/- The law FnExactStampNext: its functions' contracts, its run, its row. No condition. -/
import Derived.Test.YtlfbhelaehdemaaRows
import Derived.Test.YtlfbhelaehdemaaLabPStampNext
import Derived.WalkKit
import Derived.ProofKit
set_option linter.unusedVariables false
namespace Go.Proofs.Ytlfbhelaehdemaa.RFnExactStampNext
open Go.AM
open Pic (enc dec dec_enc dec_sub)
def Md : Modes := fun f => if f == 26 then 2 else if f == 52 then 2 else if f == 58 then 2 else if f == 66 then 2 else if f == 68 then 2 else if f == 73 then 2 else 0
noncomputable def e44 : Env := mkEnv [] []
theorem e44_ok : EnvOK Try.prog e44 := mkEnv_ok (by
  intro p hp
  cases hp) (by intro p hp; cases hp)
theorem o44 : PureOK Try.prog 44 true (FA fun a : List TStamp × Int => p_laws_szStampS a.1 a.2) := pure_tells e44_ok (mkEnv_pur _ _) (md := Md) (by kernel_rfl) (A := c_laws_szStampS) (by kernel_rfl) (by
  rintro ⟨x, y⟩ b hb
  exact d_laws_szStampS x y hb)
noncomputable def e16 : Env := mkEnv [] []
theorem e16_ok : EnvOK Try.prog e16 := mkEnv_ok (by
  intro p hp
  cases hp) (by intro p hp; cases hp)
theorem o16 : PureOK Try.prog 16 true (FA fun a : TStamp => p_laws_toStamp a) := pure_tells e16_ok (mkEnv_pur _ _) (md := Md) (by kernel_rfl) (A := c_laws_toStamp) (by kernel_rfl) (by
  rintro x b hb
  exact d_laws_toStamp x hb)
noncomputable def e46 : Env := mkEnv [(16, true, FA fun a : TStamp => p_laws_toStamp a)] []
theorem e46_ok : EnvOK Try.prog e46 := mkEnv_ok (by
  intro p hp
  simp only [List.mem_cons, List.not_mem_nil, or_false] at hp
  subst hp
  exact o16) (by intro p hp; cases hp)
theorem u46_16 : e46 (2 * 16) = pureFn true (FA fun a : TStamp => p_laws_toStamp a) := by
  unfold e46
  exact mkEnv_at (by rfl)
theorem o46 : PureOK Try.prog 46 true (FA fun a : List TStamp => p_laws_toStampS a) := pure_tells e46_ok (mkEnv_pur _ _) (md := Md) (by kernel_rfl) (A := c_laws_toStampS 16) (by kernel_rfl) (by
  rintro x b hb
  exact d_laws_toStampS u46_16 x hb)
noncomputable def e15 : Env := mkEnv [] []
theorem e15_ok : EnvOK Try.prog e15 := mkEnv_ok (by
  intro p hp
  cases hp) (by intro p hp; cases hp)
theorem o15 : PureOK Try.prog 15 true (FA fun a : TStamp => p_spec_StampOK a) := pure_tells e15_ok (mkEnv_pur _ _) (md := Md) (by kernel_rfl) (A := c_spec_StampOK) (by kernel_rfl) (by
  rintro x b hb
  exact d_spec_StampOK x hb)
noncomputable def e71 : Env := mkEnv [] []
theorem e71_ok : EnvOK Try.prog e71 := mkEnv_ok (by
  intro p hp
  cases hp) (by intro p hp; cases hp)
theorem o71 : PureOK Try.prog 71 true (FA fun a : TStamp => p_spec_l02None a) := pure_tells e71_ok (mkEnv_pur _ _) (md := Md) (by kernel_rfl) (A := c_spec_l02None) (by kernel_rfl) (by
  rintro x b hb
  exact d_spec_l02None x hb)
noncomputable def e18 : Env := mkEnv [] []
theorem e18_ok : EnvOK Try.prog e18 := mkEnv_ok (by
  intro p hp
  cases hp) (by intro p hp; cases hp)
theorem o18 : PureOK Try.prog 18 true (FA fun a : TStamp × TStamp => p_spec_StampLess a.1 a.2) := pure_tells e18_ok (mkEnv_pur _ _) (md := Md) (by kernel_rfl) (A := c_spec_StampLess) (by kernel_rfl) (by
  rintro ⟨x, y⟩ b hb
  exact d_spec_StampLess x y hb)
noncomputable def e45 : Env := mkEnv [(15, true, FA fun a : TStamp => p_spec_StampOK a), (71, true, FA fun a : TStamp => p_spec_l02None a), (18, true, FA fun a : TStamp × TStamp => p_spec_StampLess a.1 a.2)] []
theorem e45_ok : EnvOK Try.prog e45 := mkEnv_ok (by
  intro p hp
  simp only [List.mem_cons, List.not_mem_nil, or_false] at hp
  rcases hp with rfl | rfl | rfl
  · exact o15
  · exact o71
  · exact o18) (by intro p hp; cases hp)
theorem u45_15 : e45 (2 * 15) = pureFn true (FA fun a : TStamp => p_spec_StampOK a) := by
  unfold e45
  exact mkEnv_at (by rfl)
theorem u45_71 : e45 (2 * 71) = pureFn true (FA fun a : TStamp => p_spec_l02None a) := by
  unfold e45
  exact mkEnv_at (by rfl)
theorem u45_18 : e45 (2 * 18) = pureFn true (FA fun a : TStamp × TStamp => p_spec_StampLess a.1 a.2) := by
  unfold e45
  exact mkEnv_at (by rfl)
theorem o45 : PureOK Try.prog 45 true (FA fun a : List TStamp × Int => p_spec_StampNext a.1 a.2) := pure_tells e45_ok (mkEnv_pur _ _) (md := Md) (by kernel_rfl) (A := c_spec_StampNext 15 71 18) (by kernel_rfl) (by
  rintro ⟨x, y⟩ b hb
  exact d_spec_StampNext u45_15 u45_71 u45_18 x y hb)
noncomputable def e54 : Env := mkEnv [] []
theorem e54_ok : EnvOK Try.prog e54 := mkEnv_ok (by
  intro p hp
  cases hp) (by intro p hp; cases hp)
theorem o54 : PureOK Try.prog 54 true (FA fun a : Int => p_impl_isActor a) := pure_tells e54_ok (mkEnv_pur _ _) (md := Md) (by kernel_rfl) (A := c_impl_isActor) (by kernel_rfl) (by
  rintro x b hb
  exact d_impl_isActor x hb)
noncomputable def e17 : Env := mkEnv [(54, true, FA fun a : Int => p_impl_isActor a)] []
theorem e17_ok : EnvOK Try.prog e17 := mkEnv_ok (by
  intro p hp
  simp only [List.mem_cons, List.not_mem_nil, or_false] at hp
  subst hp
  exact o54) (by intro p hp; cases hp)
theorem u17_54 : e17 (2 * 54) = pureFn true (FA fun a : Int => p_impl_isActor a) := by
  unfold e17
  exact mkEnv_at (by rfl)
theorem o17 : PureOK Try.prog 17 true (FA fun a : TStamp => p_impl_StampOK a) := pure_tells e17_ok (mkEnv_pur _ _) (md := Md) (by kernel_rfl) (A := c_impl_StampOK 54) (by kernel_rfl) (by
  rintro x b hb
  exact d_impl_StampOK u17_54 x hb)
noncomputable def e19 : Env := mkEnv [] []
theorem e19_ok : EnvOK Try.prog e19 := mkEnv_ok (by
  intro p hp
  cases hp) (by intro p hp; cases hp)
theorem o19 : PureOK Try.prog 19 true (FA fun a : TStamp × TStamp => p_impl_StampLess a.1 a.2) := pure_tells e19_ok (mkEnv_pur _ _) (md := Md) (by kernel_rfl) (A := c_impl_StampLess) (by kernel_rfl) (by
  rintro ⟨x, y⟩ b hb
  exact d_impl_StampLess x y hb)
noncomputable def e72 : Env := mkEnv [(17, true, FA fun a : TStamp => p_impl_StampOK a)] []
theorem e72_ok : EnvOK Try.prog e72 := mkEnv_ok (by
  intro p hp
  simp only [List.mem_cons, List.not_mem_nil, or_false] at hp
  subst hp
  exact o17) (by intro p hp; cases hp)
theorem u72_17 : e72 (2 * 17) = pureFn true (FA fun a : TStamp => p_impl_StampOK a) := by
  unfold e72
  exact mkEnv_at (by rfl)
theorem o72 : PureOK Try.prog 72 true (FA fun a : TStamp × Int => p_impl_nextAbove a.1 a.2) := pure_tells e72_ok (mkEnv_pur _ _) (md := Md) (by kernel_rfl) (A := c_impl_nextAbove 17) (by kernel_rfl) (by
  rintro ⟨x, y⟩ b hb
  exact d_impl_nextAbove u72_17 x y hb)
noncomputable def e47 : Env := mkEnv [(54, true, FA fun a : Int => p_impl_isActor a), (17, true, FA fun a : TStamp => p_impl_StampOK a), (19, true, FA fun a : TStamp × TStamp => p_impl_StampLess a.1 a.2), (72, true, FA fun a : TStamp × Int => p_impl_nextAbove a.1 a.2)] []
theorem e47_ok : EnvOK Try.prog e47 := mkEnv_ok (by
  intro p hp
  simp only [List.mem_cons, List.not_mem_nil, or_false] at hp
  rcases hp with rfl | rfl | rfl | rfl
  · exact o54
  · exact o17
  · exact o19
  · exact o72) (by intro p hp; cases hp)
theorem u47_54 : e47 (2 * 54) = pureFn true (FA fun a : Int => p_impl_isActor a) := by
  unfold e47
  exact mkEnv_at (by rfl)
theorem u47_17 : e47 (2 * 17) = pureFn true (FA fun a : TStamp => p_impl_StampOK a) := by
  unfold e47
  exact mkEnv_at (by rfl)
theorem u47_19 : e47 (2 * 19) = pureFn true (FA fun a : TStamp × TStamp => p_impl_StampLess a.1 a.2) := by
  unfold e47
  exact mkEnv_at (by rfl)
theorem u47_72 : e47 (2 * 72) = pureFn true (FA fun a : TStamp × Int => p_impl_nextAbove a.1 a.2) := by
  unfold e47
  exact mkEnv_at (by rfl)
theorem o47 : PureOK Try.prog 47 true (FA fun a : List TStamp × Int => p_impl_StampNext a.1 a.2) := pure_tells e47_ok (mkEnv_pur _ _) (md := Md) (by kernel_rfl) (A := c_impl_StampNext 54 17 19 72) (by kernel_rfl) (by
  rintro ⟨x, y⟩ b hb
  exact d_impl_StampNext u47_54 u47_19 u47_17 u47_72 x y hb)
noncomputable def e48 : Env := mkEnv [] []
theorem e48_ok : EnvOK Try.prog e48 := mkEnv_ok (by
  intro p hp
  cases hp) (by intro p hp; cases hp)
theorem o48 : PureOK Try.prog 48 true (FA fun a : TStamp × TStamp => p_laws_eqStamp a.1 a.2) := pure_tells e48_ok (mkEnv_pur _ _) (md := Md) (by kernel_rfl) (A := c_laws_eqStamp) (by kernel_rfl) (by
  rintro ⟨x, y⟩ b hb
  exact d_laws_eqStamp x y hb)
noncomputable def e49 : Env := mkEnv [(48, true, FA fun a : TStamp × TStamp => p_laws_eqStamp a.1 a.2)] []
theorem e49_ok : EnvOK Try.prog e49 := mkEnv_ok (by
  intro p hp
  simp only [List.mem_cons, List.not_mem_nil, or_false] at hp
  subst hp
  exact o48) (by intro p hp; cases hp)
theorem u49_48 : e49 (2 * 48) = pureFn true (FA fun a : TStamp × TStamp => p_laws_eqStamp a.1 a.2) := by
  unfold e49
  exact mkEnv_at (by rfl)
theorem o49 : PureOK Try.prog 49 true (FA fun a : List TStamp × List TStamp => p_laws_eqStampS a.1 a.2) := pure_tells e49_ok (mkEnv_pur _ _) (md := Md) (by kernel_rfl) (A := c_laws_eqStampS 48) (by kernel_rfl) (by
  rintro ⟨x, y⟩ b hb
  exact d_laws_eqStampS u49_48 x y hb)
noncomputable def e13 : Env := mkEnv [(44, true, FA fun a : List TStamp × Int => p_laws_szStampS a.1 a.2), (46, true, FA fun a : List TStamp => p_laws_toStampS a), (45, true, FA fun a : List TStamp × Int => p_spec_StampNext a.1 a.2), (47, true, FA fun a : List TStamp × Int => p_impl_StampNext a.1 a.2), (48, true, FA fun a : TStamp × TStamp => p_laws_eqStamp a.1 a.2), (49, true, FA fun a : List TStamp × List TStamp => p_laws_eqStampS a.1 a.2)] []
theorem e13_ok : EnvOK Try.prog e13 := mkEnv_ok (by
  intro p hp
  simp only [List.mem_cons, List.not_mem_nil, or_false] at hp
  rcases hp with rfl | rfl | rfl | rfl | rfl | rfl
  · exact o44
  · exact o46
  · exact o45
  · exact o47
  · exact o48
  · exact o49) (by intro p hp; cases hp)
theorem u13_44 : e13 (2 * 44) = pureFn true (FA fun a : List TStamp × Int => p_laws_szStampS a.1 a.2) := by
  unfold e13
  exact mkEnv_at (by rfl)
theorem u13_46 : e13 (2 * 46) = pureFn true (FA fun a : List TStamp => p_laws_toStampS a) := by
  unfold e13
  exact mkEnv_at (by rfl)
theorem u13_45 : e13 (2 * 45) = pureFn true (FA fun a : List TStamp × Int => p_spec_StampNext a.1 a.2) := by
  unfold e13
  exact mkEnv_at (by rfl)
theorem u13_47 : e13 (2 * 47) = pureFn true (FA fun a : List TStamp × Int => p_impl_StampNext a.1 a.2) := by
  unfold e13
  exact mkEnv_at (by rfl)
theorem u13_48 : e13 (2 * 48) = pureFn true (FA fun a : TStamp × TStamp => p_laws_eqStamp a.1 a.2) := by
  unfold e13
  exact mkEnv_at (by rfl)
theorem u13_49 : e13 (2 * 49) = pureFn true (FA fun a : List TStamp × List TStamp => p_laws_eqStampS a.1 a.2) := by
  unfold e13
  exact mkEnv_at (by rfl)
theorem law : LawOK Try.prog 13 [.sl 16 (.st [.int .i64, .int .i64]), .int .i64] := law_of_run e13_ok (mkEnv_pur _ _) (md := Md) (A := c_laws_FnExactStampNext 44 46 45 47 48 49) (by kernel_rfl) (by
  intro xs hx
  cases hx with
  | cons h0 hx =>
  cases hx with
  | cons h1 hx =>
  cases hx
  obtain ⟨a0, rfl, k0⟩ := fit_sl (α := TStamp) rfl (fun x hx => fit_TStamp hx) h0
  obtain ⟨a1, rfl, k1⟩ := fit_int h1
  exact d_laws_FnExactStampNext u13_44 u13_46 u13_45 u13_47 u13_48 u13_49 a0 a1 (plain_StampNext a0 a1 k0 k1))
theorem own : ownKnob Try.prog.godebug = none := by kernel_rfl
theorem laidOut : laidOutB Try.prog = true := by kernel_rfl
set_option maxRecDepth 100000 in
theorem lifted (os : Os) (started : os.Started) (H : Type) (enc : TypeId × Value → H) :
    ReturnsInHanded {} Try.checked os 13 .any (Rows.fnExactStampNextSpec.pre6 enc Try.prog Try.f13 Rows.fnExactStampNextRow.domain false) (Rows.fnExactStampNextSpec.post enc Try.prog Try.f13 false true false false) := by
  refine returnsInHanded_of_change_sized (C := Try.checked) own started (by kernel_rfl) Try.func13
    (ChangeSpec.witness6 (enc := enc) (C := Try.checked) false ⟨#[], #[.slice none 0 0, .int .i64 0], []⟩ 8 (by kernel_rfl) (by kernel_rfl) (by kernel_rfl) (by kernel_rfl)) ?_
  intro W base args ds gs before hval hW hcnd hsz _
  refine law_contract (n := 8) (tb := 4) (shs := [.sl 16 (.st [.int .i64, .int .i64]), .int .i64]) laidOut rfl ?_ (by kernel_rfl) Try.underlying4 (by kernel_rfl) (by kernel_rfl) law W base args ds gs before hval hW hsz
  intro ds hds
  have h1 : ds.length = 2 := hds
  match ds, h1 with
  | [d0, d1], _ => rfl
theorem over : Rows.fnExactStampNextRow.holds Try.pinned (OpenSpec.ofChange Rows.fnExactStampNextSpec) :=
  OpenClaim.holds_of_wide 13 Try.f13 rfl rfl rfl rfl rfl rfl rfl ⟨rfl, rfl, rfl, rfl, rfl⟩ rfl rfl rfl rfl rfl (by kernel_rfl) Try.func13 (by kernel_rfl)
    (of_decide_eq_true (by kernel_rfl)) (by unfold Func.isWrapper; first | (rw [if_pos (by decide +kernel)]; kernel_rfl) | (rw [if_neg (by decide +kernel)]; exact ⟨rfl, rfl⟩))
    (fun os started H enc _ => lifted os started H enc)
theorem proved : Rows.FnExactStampNextSaid := over
#print axioms proved
end Go.Proofs.Ytlfbhelaehdemaa.RFnExactStampNext
namespace Go.Proofs.Ytlfbhelaehdemaa
/-- The row, under a short name, for the claim. -/
theorem fnExactStampNext_holds : Rows.FnExactStampNextSaid := RFnExactStampNext.proved
end Go.Proofs.Ytlfbhelaehdemaa
