/- The law FnExactVecMeet: its functions' contracts, its run, its row. No condition. -/
import Derived.Test.YtlfbhelaehdemaaRows
import Derived.Test.YtlfbhelaehdemaaLabPVecMeet
import Derived.WalkKit
import Derived.ProofKit
set_option linter.unusedVariables false
namespace Go.Proofs.Ytlfbhelaehdemaa.RFnExactVecMeet
open Go.AM
open Pic (enc dec dec_enc dec_sub)
def Md : Modes := fun f => if f == 21 then 1 else if f == 25 then 1 else if f == 26 then 2 else if f == 30 then 1 else if f == 39 then 1 else if f == 46 then 1 else if f == 51 then 1 else if f == 52 then 2 else if f == 58 then 2 else if f == 60 then 1 else if f == 66 then 2 else if f == 68 then 2 else if f == 73 then 2 else 0
noncomputable def e59 : Env := mkEnv [] []
theorem e59_ok : EnvOK Try.prog e59 := mkEnv_ok (by intro p hp; cases hp) (by intro p hp; cases hp)
theorem o59 : PureOK Try.prog 59 true (FA fun a : List Int × Int => p_laws_szIntS a.1 a.2) := pure_tells e59_ok (mkEnv_pur _ _) (md := Md) (by kernel_rfl) (A := c_laws_szIntS) (by kernel_rfl) (by
  rintro ⟨x, y⟩ b hb
  exact d_laws_szIntS x y hb)
noncomputable def e28 : Env := mkEnv [(59, true, FA fun a : List Int × Int => p_laws_szIntS a.1 a.2)] []
theorem e28_ok : EnvOK Try.prog e28 := mkEnv_ok (by
  intro p hp
  simp only [List.mem_cons, List.not_mem_nil, or_false] at hp
  subst hp
  exact o59) (by intro p hp; cases hp)
theorem u28_59 : e28 (2 * 59) = pureFn true (FA fun a : List Int × Int => p_laws_szIntS a.1 a.2) := by
  unfold e28
  exact mkEnv_at (by rfl)
theorem o28 : PureOK Try.prog 28 true (FA fun a : TVec × Int => p_laws_szVector a.1 a.2) := pure_tells e28_ok (mkEnv_pur _ _) (md := Md) (by kernel_rfl) (A := c_laws_szVector 59) (by kernel_rfl) (by
  rintro ⟨x, y⟩ b hb
  exact d_laws_szVector u28_59 x y hb)
noncomputable def e60 : Env := mkEnv [] []
theorem e60_ok : EnvOK Try.prog e60 := mkEnv_ok (by intro p hp; cases hp) (by intro p hp; cases hp)
theorem y60 : FunOK Try.prog 60 (ownFn Try.prog e60 (c_laws_toIntS)) := ownFn_ok e60_ok (mkEnv_pur _ _) (md := Md) (by kernel_rfl) (by kernel_rfl)
noncomputable def e30 : Env := mkEnv [] [(60, (ownFn Try.prog e60 (c_laws_toIntS)))]
theorem e30_ok : EnvOK Try.prog e30 := mkEnv_ok (by intro p hp; cases hp) (by
  intro p hp
  simp only [List.mem_cons, List.not_mem_nil, or_false] at hp
  subst hp
  exact y60)
theorem x30_60 : k_laws_toIntS (e30 (2 * 60 + 1)) := by
  unfold e30
  rw [mkEnv_own (g := (ownFn Try.prog e60 (c_laws_toIntS))) (by rfl)]
  exact ko_laws_toIntS
theorem o30 : PureOK Try.prog 30 true (FA fun a : TVec => p_laws_toVector a) := pure_tells e30_ok (mkEnv_pur _ _) (md := Md) (by kernel_rfl) (A := c_laws_toVector 60) (by kernel_rfl) (by
  rintro x b hb
  exact d_laws_toVector x30_60 x hb)
theorem y30 : FunOK Try.prog 30 (ownFn Try.prog e30 (c_laws_toVector 60)) := ownFn_ok e30_ok (mkEnv_pur _ _) (md := Md) (by kernel_rfl) (by kernel_rfl)
noncomputable def e29 : Env := mkEnv [] []
theorem e29_ok : EnvOK Try.prog e29 := mkEnv_ok (by intro p hp; cases hp) (by intro p hp; cases hp)
theorem o29 : PureOK Try.prog 29 true (FA fun a : TVec => p_spec_VecOK a) := pure_tells e29_ok (mkEnv_pur _ _) (md := Md) (by kernel_rfl) (A := c_spec_VecOK) (by kernel_rfl) (by
  rintro x b hb
  exact d_spec_VecOK x hb)
noncomputable def e50 : Env := mkEnv [(29, true, FA fun a : TVec => p_spec_VecOK a)] []
theorem e50_ok : EnvOK Try.prog e50 := mkEnv_ok (by
  intro p hp
  simp only [List.mem_cons, List.not_mem_nil, or_false] at hp
  subst hp
  exact o29) (by intro p hp; cases hp)
theorem u50_29 : e50 (2 * 29) = pureFn true (FA fun a : TVec => p_spec_VecOK a) := by
  unfold e50
  exact mkEnv_at (by rfl)
theorem o50 : PureOK Try.prog 50 true (FA fun a : TVec × TVec => p_spec_VecMeet a.1 a.2) := pure_tells e50_ok (mkEnv_pur _ _) (md := Md) (by kernel_rfl) (A := c_spec_VecMeet 29) (by kernel_rfl) (by
  rintro ⟨x, y⟩ b hb
  exact d_spec_VecMeet u50_29 x y hb)
noncomputable def e31 : Env := mkEnv [] []
theorem e31_ok : EnvOK Try.prog e31 := mkEnv_ok (by intro p hp; cases hp) (by intro p hp; cases hp)
theorem o31 : PureOK Try.prog 31 true (FA fun a : TVec => p_impl_VecOK a) := pure_tells e31_ok (mkEnv_pur _ _) (md := Md) (by kernel_rfl) (A := c_impl_VecOK) (by kernel_rfl) (by
  rintro x b hb
  exact d_impl_VecOK x hb)
noncomputable def e51 : Env := mkEnv [(31, true, FA fun a : TVec => p_impl_VecOK a)] []
theorem e51_ok : EnvOK Try.prog e51 := mkEnv_ok (by
  intro p hp
  simp only [List.mem_cons, List.not_mem_nil, or_false] at hp
  subst hp
  exact o31) (by intro p hp; cases hp)
theorem u51_31 : e51 (2 * 31) = pureFn true (FA fun a : TVec => p_impl_VecOK a) := by
  unfold e51
  exact mkEnv_at (by rfl)
theorem o51 : PureOK Try.prog 51 true (FA fun a : TVec × TVec => p_impl_VecMeet a.1 a.2) := pure_tells e51_ok (mkEnv_pur _ _) (md := Md) (by kernel_rfl) (A := c_impl_VecMeet 31) (by kernel_rfl) (by
  rintro ⟨x, y⟩ b hb
  exact d_impl_VecMeet u51_31 x y hb)
theorem y51 : FunOK Try.prog 51 (ownFn Try.prog e51 (c_impl_VecMeet 31)) := ownFn_ok e51_ok (mkEnv_pur _ _) (md := Md) (by kernel_rfl) (by kernel_rfl)
noncomputable def e61 : Env := mkEnv [] []
theorem e61_ok : EnvOK Try.prog e61 := mkEnv_ok (by intro p hp; cases hp) (by intro p hp; cases hp)
theorem o61 : PureOK Try.prog 61 true (FA fun a : List Int × List Int => p_laws_eqIntS a.1 a.2) := pure_tells e61_ok (mkEnv_pur _ _) (md := Md) (by kernel_rfl) (A := c_laws_eqIntS) (by kernel_rfl) (by
  rintro ⟨x, y⟩ b hb
  exact d_laws_eqIntS x y hb)
noncomputable def e32 : Env := mkEnv [(61, true, FA fun a : List Int × List Int => p_laws_eqIntS a.1 a.2)] []
theorem e32_ok : EnvOK Try.prog e32 := mkEnv_ok (by
  intro p hp
  simp only [List.mem_cons, List.not_mem_nil, or_false] at hp
  subst hp
  exact o61) (by intro p hp; cases hp)
theorem u32_61 : e32 (2 * 61) = pureFn true (FA fun a : List Int × List Int => p_laws_eqIntS a.1 a.2) := by
  unfold e32
  exact mkEnv_at (by rfl)
theorem o32 : PureOK Try.prog 32 true (FA fun a : TVec × TVec => p_laws_eqVector a.1 a.2) := pure_tells e32_ok (mkEnv_pur _ _) (md := Md) (by kernel_rfl) (A := c_laws_eqVector 61) (by kernel_rfl) (by
  rintro ⟨x, y⟩ b hb
  exact d_laws_eqVector u32_61 x y hb)
noncomputable def e73 : Env := mkEnv [] []
theorem e73_ok : EnvOK Try.prog e73 := mkEnv_ok (by intro p hp; cases hp) (by intro p hp; cases hp)
theorem y73 : FunOK Try.prog 73 (runIn Try.prog e73 (c_laws_markIntS)) := runIn_ok e73_ok (mkEnv_pur _ _) (md := Md) (by kernel_rfl) (by kernel_rfl)
noncomputable def e52 : Env := mkEnv [] [(73, (runIn Try.prog e73 (c_laws_markIntS)))]
theorem e52_ok : EnvOK Try.prog e52 := mkEnv_ok (by intro p hp; cases hp) (by
  intro p hp
  simp only [List.mem_cons, List.not_mem_nil, or_false] at hp
  subst hp
  exact y73)
theorem x52_73 : k_laws_markIntS (e52 (2 * 73 + 1)) := by
  unfold e52
  rw [mkEnv_own (g := (runIn Try.prog e73 (c_laws_markIntS))) (by rfl)]
  exact ko_laws_markIntS
theorem y52 : FunOK Try.prog 52 (runIn Try.prog e52 (c_laws_markVector 73)) := runIn_ok e52_ok (mkEnv_pur _ _) (md := Md) (by kernel_rfl) (by kernel_rfl)
noncomputable def e74 : Env := mkEnv [] []
theorem e74_ok : EnvOK Try.prog e74 := mkEnv_ok (by intro p hp; cases hp) (by intro p hp; cases hp)
theorem o74 : PureOK Try.prog 74 true (FA fun a : List Int × Int => p_laws_heldIntS a.1 a.2) := pure_tells e74_ok (mkEnv_pur _ _) (md := Md) (by kernel_rfl) (A := c_laws_heldIntS) (by kernel_rfl) (by
  rintro ⟨x, y⟩ b hb
  exact d_laws_heldIntS x y hb)
noncomputable def e53 : Env := mkEnv [(74, true, FA fun a : List Int × Int => p_laws_heldIntS a.1 a.2)] []
theorem e53_ok : EnvOK Try.prog e53 := mkEnv_ok (by
  intro p hp
  simp only [List.mem_cons, List.not_mem_nil, or_false] at hp
  subst hp
  exact o74) (by intro p hp; cases hp)
theorem u53_74 : e53 (2 * 74) = pureFn true (FA fun a : List Int × Int => p_laws_heldIntS a.1 a.2) := by
  unfold e53
  exact mkEnv_at (by rfl)
theorem o53 : PureOK Try.prog 53 true (FA fun a : TVec × Int => p_laws_heldVector a.1 a.2) := pure_tells e53_ok (mkEnv_pur _ _) (md := Md) (by kernel_rfl) (A := c_laws_heldVector 74) (by kernel_rfl) (by
  rintro ⟨x, y⟩ b hb
  exact d_laws_heldVector u53_74 x y hb)
noncomputable def e14 : Env := mkEnv [(28, true, FA fun a : TVec × Int => p_laws_szVector a.1 a.2), (30, true, FA fun a : TVec => p_laws_toVector a), (50, true, FA fun a : TVec × TVec => p_spec_VecMeet a.1 a.2), (32, true, FA fun a : TVec × TVec => p_laws_eqVector a.1 a.2), (53, true, FA fun a : TVec × Int => p_laws_heldVector a.1 a.2), (51, true, FA fun a : TVec × TVec => p_impl_VecMeet a.1 a.2)] [(30, (ownFn Try.prog e30 (c_laws_toVector 60))), (51, (ownFn Try.prog e51 (c_impl_VecMeet 31))), (52, (runIn Try.prog e52 (c_laws_markVector 73)))]
theorem e14_ok : EnvOK Try.prog e14 := mkEnv_ok (by
  intro p hp
  simp only [List.mem_cons, List.not_mem_nil, or_false] at hp
  rcases hp with rfl | rfl | rfl | rfl | rfl | rfl
  · exact o28
  · exact o30
  · exact o50
  · exact o32
  · exact o53
  · exact o51) (by
  intro p hp
  simp only [List.mem_cons, List.not_mem_nil, or_false] at hp
  rcases hp with rfl | rfl | rfl
  · exact y30
  · exact y51
  · exact y52)
theorem u14_28 : e14 (2 * 28) = pureFn true (FA fun a : TVec × Int => p_laws_szVector a.1 a.2) := by
  unfold e14
  exact mkEnv_at (by rfl)
theorem u14_30 : e14 (2 * 30) = pureFn true (FA fun a : TVec => p_laws_toVector a) := by
  unfold e14
  exact mkEnv_at (by rfl)
theorem u14_50 : e14 (2 * 50) = pureFn true (FA fun a : TVec × TVec => p_spec_VecMeet a.1 a.2) := by
  unfold e14
  exact mkEnv_at (by rfl)
theorem u14_32 : e14 (2 * 32) = pureFn true (FA fun a : TVec × TVec => p_laws_eqVector a.1 a.2) := by
  unfold e14
  exact mkEnv_at (by rfl)
theorem u14_53 : e14 (2 * 53) = pureFn true (FA fun a : TVec × Int => p_laws_heldVector a.1 a.2) := by
  unfold e14
  exact mkEnv_at (by rfl)
theorem u14_51 : e14 (2 * 51) = pureFn true (FA fun a : TVec × TVec => p_impl_VecMeet a.1 a.2) := by
  unfold e14
  exact mkEnv_at (by rfl)
theorem x14_30 : k_laws_toVector (e14 (2 * 30 + 1)) := by
  unfold e14
  rw [mkEnv_own (g := (ownFn Try.prog e30 (c_laws_toVector 60))) (by rfl)]
  exact ko_laws_toVector x30_60
theorem x14_51 : k_impl_VecMeet (e14 (2 * 51 + 1)) := by
  unfold e14
  rw [mkEnv_own (g := (ownFn Try.prog e51 (c_impl_VecMeet 31))) (by rfl)]
  exact ko_impl_VecMeet u51_31
theorem x14_52 : k_laws_markVector (e14 (2 * 52 + 1)) := by
  unfold e14
  rw [mkEnv_own (g := (runIn Try.prog e52 (c_laws_markVector 73))) (by rfl)]
  exact ko_laws_markVector x52_73
theorem law : LawOK Try.prog 14 [.st [.sl 8 (.int .i64)], .st [.sl 8 (.int .i64)]] := law_of_run e14_ok (mkEnv_pur _ _) (md := Md) (A := c_laws_FnExactVecMeet 28 30 50 51 32 52 53) (by kernel_rfl) (by
  intro xs hx
  cases hx with
  | cons h0 hx =>
  cases hx with
  | cons h1 hx =>
  cases hx
  obtain ⟨a0, rfl, k0⟩ := fit_TVec h0
  obtain ⟨a1, rfl, k1⟩ := fit_TVec h1
  exact d_laws_FnExactVecMeet u14_28 u14_30 u14_50 u14_32 u14_53 u14_51 x14_30 x14_51 x14_52 a0 a1 (plain_VecMeet a0 a1 k0 k1))
theorem own : ownKnob Try.prog.godebug = none := by kernel_rfl
theorem laidOut : laidOutB Try.prog = true := by kernel_rfl
set_option maxRecDepth 100000 in
theorem lifted (os : Os) (started : os.Started) (H : Type) (enc : TypeId × Value → H) :
    ReturnsInHanded {} Try.checked os 14 .any (Rows.fnExactVecMeetSpec.pre6 enc Try.prog Try.f14 Rows.fnExactVecMeetRow.domain false) (Rows.fnExactVecMeetSpec.post enc Try.prog Try.f14 false true false false) := by
  refine returnsInHanded_of_change_sized (C := Try.checked) own started (by kernel_rfl) Try.func14
    (ChangeSpec.witness6 (enc := enc) (C := Try.checked) false ⟨#[], #[.agg #[.slice none 0 0], .agg #[.slice none 0 0]], []⟩ 8 (by kernel_rfl) (by kernel_rfl) (by kernel_rfl) (by kernel_rfl)) ?_
  intro W base args ds gs before hval hW hcnd hsz _
  refine law_contract (n := 8) (tb := 4) (shs := [.st [.sl 8 (.int .i64)], .st [.sl 8 (.int .i64)]]) laidOut rfl ?_ (by kernel_rfl) Try.underlying4 (by kernel_rfl) (by kernel_rfl) law W base args ds gs before hval hW hsz
  intro ds hds
  have h1 : ds.length = 2 := hds
  match ds, h1 with
  | [d0, d1], _ => rfl
theorem over : Rows.fnExactVecMeetRow.holds Try.pinned (OpenSpec.ofChange Rows.fnExactVecMeetSpec) :=
  OpenClaim.holds_of_wide 14 Try.f14 rfl rfl rfl rfl rfl rfl rfl ⟨rfl, rfl, rfl, rfl, rfl⟩ rfl rfl rfl rfl rfl (by kernel_rfl) Try.func14 (by kernel_rfl)
    (of_decide_eq_true (by kernel_rfl)) (by unfold Func.isWrapper; first | (rw [if_pos (by decide +kernel)]; kernel_rfl) | (rw [if_neg (by decide +kernel)]; exact ⟨rfl, rfl⟩))
    (fun os started H enc _ => lifted os started H enc)
theorem proved : Rows.FnExactVecMeetSaid := over
#print axioms proved
end Go.Proofs.Ytlfbhelaehdemaa.RFnExactVecMeet
namespace Go.Proofs.Ytlfbhelaehdemaa
/-- The row, under a short name, for the claim. -/
theorem fnExactVecMeet_holds : Rows.FnExactVecMeetSaid := RFnExactVecMeet.proved
end Go.Proofs.Ytlfbhelaehdemaa
