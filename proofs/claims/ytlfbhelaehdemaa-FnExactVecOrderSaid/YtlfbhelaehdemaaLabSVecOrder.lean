/- The law FnExactVecOrder: its functions' contracts, its run, its row. No condition. -/
import Derived.Test.YtlfbhelaehdemaaRows
import Derived.Test.YtlfbhelaehdemaaLabPVecOrder
import Derived.WalkKit
import Derived.ProofKit
set_option linter.unusedVariables false
namespace Go.Proofs.Ytlfbhelaehdemaa.RFnExactVecOrder
open Go.AM
open Pic (enc dec dec_enc dec_sub)
def Md : Modes := fun f => if f == 26 then 2 else if f == 52 then 2 else if f == 58 then 2 else if f == 66 then 2 else if f == 68 then 2 else if f == 73 then 2 else 0
noncomputable def e59 : Env := mkEnv [] []
theorem e59_ok : EnvOK Try.prog e59 := mkEnv_ok (by
  intro p hp
  cases hp) (by intro p hp; cases hp)
theorem o59 : PureOK Try.prog 59 true (FA fun a : List Int × Int => p_laws_szIntS a.1 a.2) := pure_tells e59_ok (mkEnv_pur _ _) (md := Md) (by kernel_rfl) (A := c_laws_szIntS) (by kernel_rfl) (by
  rintro ⟨x, y⟩ b hb
  exact d_laws_szIntS x y hb)
noncomputable def e28 : Env := mkEnv [(59, true, FA fun a : List Int × Int => p_laws_szIntS a.1 a.2)] []
theorem e28_ok : EnvOK Try.prog e28 := mkEnv_ok (by
  intro p hp
  simp only [List.mem_cons, List.not_mem_nil, or_false] at hp
  subst hp
  exact o59) (by intro p hp; cases hp)
theorem u28_59 : e28 (2 * 59) = pureFn true (FA fun a : List Int × Int => p_laws_szIntS a.1 a.2) := by
  unfold e28
  exact mkEnv_at (by rfl)
theorem o28 : PureOK Try.prog 28 true (FA fun a : TVec × Int => p_laws_szVector a.1 a.2) := pure_tells e28_ok (mkEnv_pur _ _) (md := Md) (by kernel_rfl) (A := c_laws_szVector 59) (by kernel_rfl) (by
  rintro ⟨x, y⟩ b hb
  exact d_laws_szVector u28_59 x y hb)
noncomputable def e60 : Env := mkEnv [] []
theorem e60_ok : EnvOK Try.prog e60 := mkEnv_ok (by
  intro p hp
  cases hp) (by intro p hp; cases hp)
theorem o60 : PureOK Try.prog 60 true (FA fun a : List Int => p_laws_toIntS a) := pure_tells e60_ok (mkEnv_pur _ _) (md := Md) (by kernel_rfl) (A := c_laws_toIntS) (by kernel_rfl) (by
  rintro x b hb
  exact d_laws_toIntS x hb)
noncomputable def e30 : Env := mkEnv [(60, true, FA fun a : List Int => p_laws_toIntS a)] []
theorem e30_ok : EnvOK Try.prog e30 := mkEnv_ok (by
  intro p hp
  simp only [List.mem_cons, List.not_mem_nil, or_false] at hp
  subst hp
  exact o60) (by intro p hp; cases hp)
theorem u30_60 : e30 (2 * 60) = pureFn true (FA fun a : List Int => p_laws_toIntS a) := by
  unfold e30
  exact mkEnv_at (by rfl)
theorem o30 : PureOK Try.prog 30 false (FA fun a : TVec => p_laws_toVector a) := pure_tells e30_ok (mkEnv_pur _ _) (md := Md) (by kernel_rfl) (A := c_laws_toVector 60) (by kernel_rfl) (by
  rintro x b hb
  exact d_laws_toVector u30_60 x hb)
noncomputable def e29 : Env := mkEnv [] []
theorem e29_ok : EnvOK Try.prog e29 := mkEnv_ok (by
  intro p hp
  cases hp) (by intro p hp; cases hp)
theorem o29 : PureOK Try.prog 29 true (FA fun a : TVec => p_spec_VecOK a) := pure_tells e29_ok (mkEnv_pur _ _) (md := Md) (by kernel_rfl) (A := c_spec_VecOK) (by kernel_rfl) (by
  rintro x b hb
  exact d_spec_VecOK x hb)
noncomputable def e69 : Env := mkEnv [] []
theorem e69_ok : EnvOK Try.prog e69 := mkEnv_ok (by
  intro p hp
  cases hp) (by intro p hp; cases hp)
theorem o69 : PureOK Try.prog 69 true (FA fun a : TVec × TVec => p_spec_l02Covers a.1 a.2) := pure_tells e69_ok (mkEnv_pur _ _) (md := Md) (by kernel_rfl) (A := c_spec_l02Covers) (by kernel_rfl) (by
  rintro ⟨x, y⟩ b hb
  exact d_spec_l02Covers x y hb)
noncomputable def e42 : Env := mkEnv [(29, true, FA fun a : TVec => p_spec_VecOK a), (69, true, FA fun a : TVec × TVec => p_spec_l02Covers a.1 a.2)] []
theorem e42_ok : EnvOK Try.prog e42 := mkEnv_ok (by
  intro p hp
  simp only [List.mem_cons, List.not_mem_nil, or_false] at hp
  rcases hp with rfl | rfl
  · exact o29
  · exact o69) (by intro p hp; cases hp)
theorem u42_29 : e42 (2 * 29) = pureFn true (FA fun a : TVec => p_spec_VecOK a) := by
  unfold e42
  exact mkEnv_at (by rfl)
theorem u42_69 : e42 (2 * 69) = pureFn true (FA fun a : TVec × TVec => p_spec_l02Covers a.1 a.2) := by
  unfold e42
  exact mkEnv_at (by rfl)
theorem o42 : PureOK Try.prog 42 true (FA fun a : TVec × TVec => p_spec_VecOrder a.1 a.2) := pure_tells e42_ok (mkEnv_pur _ _) (md := Md) (by kernel_rfl) (A := c_spec_VecOrder 29 69) (by kernel_rfl) (by
  rintro ⟨x, y⟩ b hb
  exact d_spec_VecOrder u42_29 u42_69 x y hb)
noncomputable def e31 : Env := mkEnv [] []
theorem e31_ok : EnvOK Try.prog e31 := mkEnv_ok (by
  intro p hp
  cases hp) (by intro p hp; cases hp)
theorem o31 : PureOK Try.prog 31 true (FA fun a : TVec => p_impl_VecOK a) := pure_tells e31_ok (mkEnv_pur _ _) (md := Md) (by kernel_rfl) (A := c_impl_VecOK) (by kernel_rfl) (by
  rintro x b hb
  exact d_impl_VecOK x hb)
noncomputable def e70 : Env := mkEnv [] []
theorem e70_ok : EnvOK Try.prog e70 := mkEnv_ok (by
  intro p hp
  cases hp) (by intro p hp; cases hp)
theorem o70 : PureOK Try.prog 70 true (FA fun a : TVec × TVec => p_impl_vecLE a.1 a.2) := pure_tells e70_ok (mkEnv_pur _ _) (md := Md) (by kernel_rfl) (A := c_impl_vecLE) (by kernel_rfl) (by
  rintro ⟨x, y⟩ b hb
  exact d_impl_vecLE x y hb)
noncomputable def e43 : Env := mkEnv [(31, true, FA fun a : TVec => p_impl_VecOK a), (70, true, FA fun a : TVec × TVec => p_impl_vecLE a.1 a.2)] []
theorem e43_ok : EnvOK Try.prog e43 := mkEnv_ok (by
  intro p hp
  simp only [List.mem_cons, List.not_mem_nil, or_false] at hp
  rcases hp with rfl | rfl
  · exact o31
  · exact o70) (by intro p hp; cases hp)
theorem u43_31 : e43 (2 * 31) = pureFn true (FA fun a : TVec => p_impl_VecOK a) := by
  unfold e43
  exact mkEnv_at (by rfl)
theorem u43_70 : e43 (2 * 70) = pureFn true (FA fun a : TVec × TVec => p_impl_vecLE a.1 a.2) := by
  unfold e43
  exact mkEnv_at (by rfl)
theorem o43 : PureOK Try.prog 43 true (FA fun a : TVec × TVec => p_impl_VecOrder a.1 a.2) := pure_tells e43_ok (mkEnv_pur _ _) (md := Md) (by kernel_rfl) (A := c_impl_VecOrder 31 70) (by kernel_rfl) (by
  rintro ⟨x, y⟩ b hb
  exact d_impl_VecOrder u43_31 u43_70 x y hb)
noncomputable def e61 : Env := mkEnv [] []
theorem e61_ok : EnvOK Try.prog e61 := mkEnv_ok (by
  intro p hp
  cases hp) (by intro p hp; cases hp)
theorem o61 : PureOK Try.prog 61 true (FA fun a : List Int × List Int => p_laws_eqIntS a.1 a.2) := pure_tells e61_ok (mkEnv_pur _ _) (md := Md) (by kernel_rfl) (A := c_laws_eqIntS) (by kernel_rfl) (by
  rintro ⟨x, y⟩ b hb
  exact d_laws_eqIntS x y hb)
noncomputable def e32 : Env := mkEnv [(61, true, FA fun a : List Int × List Int => p_laws_eqIntS a.1 a.2)] []
theorem e32_ok : EnvOK Try.prog e32 := mkEnv_ok (by
  intro p hp
  simp only [List.mem_cons, List.not_mem_nil, or_false] at hp
  subst hp
  exact o61) (by intro p hp; cases hp)
theorem u32_61 : e32 (2 * 61) = pureFn true (FA fun a : List Int × List Int => p_laws_eqIntS a.1 a.2) := by
  unfold e32
  exact mkEnv_at (by rfl)
theorem o32 : PureOK Try.prog 32 true (FA fun a : TVec × TVec => p_laws_eqVector a.1 a.2) := pure_tells e32_ok (mkEnv_pur _ _) (md := Md) (by kernel_rfl) (A := c_laws_eqVector 61) (by kernel_rfl) (by
  rintro ⟨x, y⟩ b hb
  exact d_laws_eqVector u32_61 x y hb)
noncomputable def e12 : Env := mkEnv [(28, true, FA fun a : TVec × Int => p_laws_szVector a.1 a.2), (30, false, FA fun a : TVec => p_laws_toVector a), (42, true, FA fun a : TVec × TVec => p_spec_VecOrder a.1 a.2), (43, true, FA fun a : TVec × TVec => p_impl_VecOrder a.1 a.2), (32, true, FA fun a : TVec × TVec => p_laws_eqVector a.1 a.2)] []
theorem e12_ok : EnvOK Try.prog e12 := mkEnv_ok (by
  intro p hp
  simp only [List.mem_cons, List.not_mem_nil, or_false] at hp
  rcases hp with rfl | rfl | rfl | rfl | rfl
  · exact o28
  · exact o30
  · exact o42
  · exact o43
  · exact o32) (by intro p hp; cases hp)
theorem u12_28 : e12 (2 * 28) = pureFn true (FA fun a : TVec × Int => p_laws_szVector a.1 a.2) := by
  unfold e12
  exact mkEnv_at (by rfl)
theorem u12_30 : e12 (2 * 30) = pureFn false (FA fun a : TVec => p_laws_toVector a) := by
  unfold e12
  exact mkEnv_at (by rfl)
theorem u12_42 : e12 (2 * 42) = pureFn true (FA fun a : TVec × TVec => p_spec_VecOrder a.1 a.2) := by
  unfold e12
  exact mkEnv_at (by rfl)
theorem u12_43 : e12 (2 * 43) = pureFn true (FA fun a : TVec × TVec => p_impl_VecOrder a.1 a.2) := by
  unfold e12
  exact mkEnv_at (by rfl)
theorem u12_32 : e12 (2 * 32) = pureFn true (FA fun a : TVec × TVec => p_laws_eqVector a.1 a.2) := by
  unfold e12
  exact mkEnv_at (by rfl)
theorem law : LawOK Try.prog 12 [.st [.sl 8 (.int .i64)], .st [.sl 8 (.int .i64)]] := law_of_run e12_ok (mkEnv_pur _ _) (md := Md) (A := c_laws_FnExactVecOrder 28 30 42 43 32) (by kernel_rfl) (by
  intro xs hx
  cases hx with
  | cons h0 hx =>
  cases hx with
  | cons h1 hx =>
  cases hx
  obtain ⟨a0, rfl, k0⟩ := fit_TVec h0
  obtain ⟨a1, rfl, k1⟩ := fit_TVec h1
  exact d_laws_FnExactVecOrder u12_28 u12_30 u12_42 u12_43 u12_32 a0 a1 (plain_VecOrder a0 a1 k0 k1))
theorem own : ownKnob Try.prog.godebug = none := by kernel_rfl
theorem laidOut : laidOutB Try.prog = true := by kernel_rfl
set_option maxRecDepth 100000 in
theorem lifted (os : Os) (started : os.Started) (H : Type) (enc : TypeId × Value → H) :
    ReturnsInHanded {} Try.checked os 12 .any (Rows.fnExactVecOrderSpec.pre6 enc Try.prog Try.f12 Rows.fnExactVecOrderRow.domain false) (Rows.fnExactVecOrderSpec.post enc Try.prog Try.f12 false true false false) := by
  refine returnsInHanded_of_change_sized (C := Try.checked) own started (by kernel_rfl) Try.func12
    (ChangeSpec.witness6 (enc := enc) (C := Try.checked) false ⟨#[], #[.agg #[.slice none 0 0], .agg #[.slice none 0 0]], []⟩ 8 (by kernel_rfl) (by kernel_rfl) (by kernel_rfl) (by kernel_rfl)) ?_
  intro W base args ds gs before hval hW hcnd hsz _
  refine law_contract (n := 8) (tb := 4) (shs := [.st [.sl 8 (.int .i64)], .st [.sl 8 (.int .i64)]]) laidOut rfl ?_ (by kernel_rfl) Try.underlying4 (by kernel_rfl) (by kernel_rfl) law W base args ds gs before hval hW hsz
  intro ds hds
  have h1 : ds.length = 2 := hds
  match ds, h1 with
  | [d0, d1], _ => rfl
theorem over : Rows.fnExactVecOrderRow.holds Try.pinned (OpenSpec.ofChange Rows.fnExactVecOrderSpec) :=
  OpenClaim.holds_of_wide 12 Try.f12 rfl rfl rfl rfl rfl rfl rfl ⟨rfl, rfl, rfl, rfl, rfl⟩ rfl rfl rfl rfl rfl (by kernel_rfl) Try.func12 (by kernel_rfl)
    (of_decide_eq_true (by kernel_rfl)) (by unfold Func.isWrapper; first | (rw [if_pos (by decide +kernel)]; kernel_rfl) | (rw [if_neg (by decide +kernel)]; exact ⟨rfl, rfl⟩))
    (fun os started H enc _ => lifted os started H enc)
theorem proved : Rows.FnExactVecOrderSaid := over
#print axioms proved
end Go.Proofs.Ytlfbhelaehdemaa.RFnExactVecOrder
namespace Go.Proofs.Ytlfbhelaehdemaa
/-- The row, under a short name, for the claim. -/
theorem fnExactVecOrder_holds : Rows.FnExactVecOrderSaid := RFnExactVecOrder.proved
end Go.Proofs.Ytlfbhelaehdemaa
