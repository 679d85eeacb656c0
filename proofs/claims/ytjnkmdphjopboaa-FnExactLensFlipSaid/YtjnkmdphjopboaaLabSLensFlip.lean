/- The law FnExactLensFlip: its functions' contracts, its run, its row. No condition. -/
import Derived.Test.YtjnkmdphjopboaaRows
import Derived.Test.YtjnkmdphjopboaaLabPLensFlip
import Derived.WalkKit
import Derived.ProofKit
set_option linter.unusedVariables false
namespace Go.Proofs.Ytjnkmdphjopboaa.RFnExactLensFlip
open Go.AM
open Pic (enc dec dec_enc dec_sub)
def Md : Modes := fun f => if f == 17 then 1 else if f == 22 then 1 else if f == 23 then 1 else if f == 25 then 2 else if f == 28 then 1 else if f == 29 then 1 else if f == 32 then 2 else if f == 33 then 2 else if f == 36 then 1 else if f == 38 then 1 else if f == 39 then 2 else if f == 43 then 1 else if f == 44 then 1 else if f == 46 then 2 else if f == 48 then 1 else if f == 49 then 1 else if f == 50 then 1 else if f == 52 then 2 else if f == 55 then 1 else if f == 57 then 1 else if f == 58 then 1 else if f == 59 then 1 else if f == 60 then 1 else if f == 62 then 1 else if f == 66 then 1 else if f == 67 then 1 else if f == 69 then 2 else if f == 77 then 1 else if f == 80 then 2 else if f == 82 then 2 else if f == 84 then 2 else if f == 91 then 1 else if f == 93 then 1 else if f == 94 then 1 else if f == 95 then 2 else if f == 96 then 2 else if f == 97 then 1 else if f == 98 then 1 else if f == 99 then 2 else if f == 100 then 2 else if f == 104 then 1 else if f == 106 then 1 else if f == 108 then 2 else if f == 119 then 2 else 0
noncomputable def e86 : Env := mkEnv [] []
theorem e86_ok : EnvOK Try.prog e86 := mkEnv_ok (by intro p hp; cases hp) (by intro p hp; cases hp)
theorem o86 : PureOK Try.prog 86 true (FA fun a : TStep × Int => p_laws_szStep a.1 a.2) := pure_tells e86_ok (mkEnv_pur _ _) (md := Md) (by kernel_rfl) (A := c_laws_szStep) (by kernel_rfl) (by
  rintro ⟨x, y⟩ b hb
  exact d_laws_szStep x y hb)
noncomputable def e47 : Env := mkEnv [(86, true, FA fun a : TStep × Int => p_laws_szStep a.1 a.2)] []
theorem e47_ok : EnvOK Try.prog e47 := mkEnv_ok (by
  intro p hp
  simp only [List.mem_cons, List.not_mem_nil, or_false] at hp
  subst hp
  exact o86) (by intro p hp; cases hp)
theorem u47_86 : e47 (2 * 86) = pureFn true (FA fun a : TStep × Int => p_laws_szStep a.1 a.2) := by
  unfold e47
  exact mkEnv_at (by rfl)
theorem o47 : PureOK Try.prog 47 true (FA fun a : List TStep × Int => p_laws_szStepS a.1 a.2) := pure_tells e47_ok (mkEnv_pur _ _) (md := Md) (by kernel_rfl) (A := c_laws_szStepS 86) (by kernel_rfl) (by
  rintro ⟨x, y⟩ b hb
  exact d_laws_szStepS u47_86 x y hb)
noncomputable def e88 : Env := mkEnv [] []
theorem e88_ok : EnvOK Try.prog e88 := mkEnv_ok (by intro p hp; cases hp) (by intro p hp; cases hp)
theorem o88 : PureOK Try.prog 88 true (FA fun a : TStep => p_laws_toStep a) := pure_tells e88_ok (mkEnv_pur _ _) (md := Md) (by kernel_rfl) (A := c_laws_toStep) (by kernel_rfl) (by
  rintro x b hb
  exact d_laws_toStep x hb)
noncomputable def e49 : Env := mkEnv [(88, true, FA fun a : TStep => p_laws_toStep a)] []
theorem e49_ok : EnvOK Try.prog e49 := mkEnv_ok (by
  intro p hp
  simp only [List.mem_cons, List.not_mem_nil, or_false] at hp
  subst hp
  exact o88) (by intro p hp; cases hp)
theorem u49_88 : e49 (2 * 88) = pureFn true (FA fun a : TStep => p_laws_toStep a) := by
  unfold e49
  exact mkEnv_at (by rfl)
theorem y49 : FunOK Try.prog 49 (ownFn Try.prog e49 (c_laws_toStepS 88)) := ownFn_ok e49_ok (mkEnv_pur _ _) (md := Md) (by kernel_rfl) (by kernel_rfl)
noncomputable def e116 : Env := mkEnv [] []
theorem e116_ok : EnvOK Try.prog e116 := mkEnv_ok (by intro p hp; cases hp) (by intro p hp; cases hp)
theorem o116 : PureOK Try.prog 116 true (FA fun a : ByteArray => p_spec_l14Name a) := pure_tells e116_ok (mkEnv_pur _ _) (md := Md) (by kernel_rfl) (A := c_spec_l14Name) (by kernel_rfl) (by
  rintro x b hb
  exact d_spec_l14Name x hb)
noncomputable def e87 : Env := mkEnv [(116, true, FA fun a : ByteArray => p_spec_l14Name a)] []
theorem e87_ok : EnvOK Try.prog e87 := mkEnv_ok (by
  intro p hp
  simp only [List.mem_cons, List.not_mem_nil, or_false] at hp
  subst hp
  exact o116) (by intro p hp; cases hp)
theorem u87_116 : e87 (2 * 116) = pureFn true (FA fun a : ByteArray => p_spec_l14Name a) := by
  unfold e87
  exact mkEnv_at (by rfl)
theorem o87 : PureOK Try.prog 87 true (FA fun a : List TStep => p_spec_l14LensOK a) := pure_tells e87_ok (mkEnv_pur _ _) (md := Md) (by kernel_rfl) (A := c_spec_l14LensOK 116) (by kernel_rfl) (by
  rintro x b hb
  exact d_spec_l14LensOK u87_116 x hb)
noncomputable def e97 : Env := mkEnv [] []
theorem e97_ok : EnvOK Try.prog e97 := mkEnv_ok (by intro p hp; cases hp) (by intro p hp; cases hp)
theorem y97 : FunOK Try.prog 97 (ownFn Try.prog e97 (c_spec_l14Flip)) := ownFn_ok e97_ok (mkEnv_pur _ _) (md := Md) (by kernel_rfl) (by kernel_rfl)
noncomputable def e59 : Env := mkEnv [(87, true, FA fun a : List TStep => p_spec_l14LensOK a)] [(97, (ownFn Try.prog e97 (c_spec_l14Flip)))]
theorem e59_ok : EnvOK Try.prog e59 := mkEnv_ok (by
  intro p hp
  simp only [List.mem_cons, List.not_mem_nil, or_false] at hp
  subst hp
  exact o87) (by
  intro p hp
  simp only [List.mem_cons, List.not_mem_nil, or_false] at hp
  subst hp
  exact y97)
theorem u59_87 : e59 (2 * 87) = pureFn true (FA fun a : List TStep => p_spec_l14LensOK a) := by
  unfold e59
  exact mkEnv_at (by rfl)
theorem x59_97 : k_spec_l14Flip (e59 (2 * 97 + 1)) := by
  unfold e59
  rw [mkEnv_own (g := (ownFn Try.prog e97 (c_spec_l14Flip))) (by rfl)]
  exact ko_spec_l14Flip
theorem y59 : FunOK Try.prog 59 (ownFn Try.prog e59 (c_spec_LensFlip 87 97)) := ownFn_ok e59_ok (mkEnv_pur _ _) (md := Md) (by kernel_rfl) (by kernel_rfl)
noncomputable def e128 : Env := mkEnv [] []
theorem e128_ok : EnvOK Try.prog e128 := mkEnv_ok (by intro p hp; cases hp) (by intro p hp; cases hp)
theorem o128 : PureOK Try.prog 128 true (FA fun a : ByteArray => p_impl_nameOK a) := pure_tells e128_ok (mkEnv_pur _ _) (md := Md) (by kernel_rfl) (A := c_impl_nameOK) (by kernel_rfl) (by
  rintro x b hb
  exact d_impl_nameOK x hb)
noncomputable def e117 : Env := mkEnv [(128, true, FA fun a : ByteArray => p_impl_nameOK a)] []
theorem e117_ok : EnvOK Try.prog e117 := mkEnv_ok (by
  intro p hp
  simp only [List.mem_cons, List.not_mem_nil, or_false] at hp
  subst hp
  exact o128) (by intro p hp; cases hp)
theorem u117_128 : e117 (2 * 128) = pureFn true (FA fun a : ByteArray => p_impl_nameOK a) := by
  unfold e117
  exact mkEnv_at (by rfl)
theorem o117 : PureOK Try.prog 117 true (FA fun a : TStep => p_impl_stepOK a) := pure_tells e117_ok (mkEnv_pur _ _) (md := Md) (by kernel_rfl) (A := c_impl_stepOK 128) (by kernel_rfl) (by
  rintro x b hb
  exact d_impl_stepOK u117_128 x hb)
noncomputable def e89 : Env := mkEnv [(117, true, FA fun a : TStep => p_impl_stepOK a)] []
theorem e89_ok : EnvOK Try.prog e89 := mkEnv_ok (by
  intro p hp
  simp only [List.mem_cons, List.not_mem_nil, or_false] at hp
  subst hp
  exact o117) (by intro p hp; cases hp)
theorem u89_117 : e89 (2 * 117) = pureFn true (FA fun a : TStep => p_impl_stepOK a) := by
  unfold e89
  exact mkEnv_at (by rfl)
theorem o89 : PureOK Try.prog 89 true (FA fun a : List TStep => p_impl_lensOK a) := pure_tells e89_ok (mkEnv_pur _ _) (md := Md) (by kernel_rfl) (A := c_impl_lensOK 117) (by kernel_rfl) (by
  rintro x b hb
  exact d_impl_lensOK u89_117 x hb)
noncomputable def e98 : Env := mkEnv [] []
theorem e98_ok : EnvOK Try.prog e98 := mkEnv_ok (by intro p hp; cases hp) (by intro p hp; cases hp)
theorem y98 : FunOK Try.prog 98 (ownFn Try.prog e98 (c_impl_flip)) := ownFn_ok e98_ok (mkEnv_pur _ _) (md := Md) (by kernel_rfl) (by kernel_rfl)
noncomputable def e60 : Env := mkEnv [(89, true, FA fun a : List TStep => p_impl_lensOK a)] [(98, (ownFn Try.prog e98 (c_impl_flip)))]
theorem e60_ok : EnvOK Try.prog e60 := mkEnv_ok (by
  intro p hp
  simp only [List.mem_cons, List.not_mem_nil, or_false] at hp
  subst hp
  exact o89) (by
  intro p hp
  simp only [List.mem_cons, List.not_mem_nil, or_false] at hp
  subst hp
  exact y98)
theorem u60_89 : e60 (2 * 89) = pureFn true (FA fun a : List TStep => p_impl_lensOK a) := by
  unfold e60
  exact mkEnv_at (by rfl)
theorem x60_98 : k_impl_flip (e60 (2 * 98 + 1)) := by
  unfold e60
  rw [mkEnv_own (g := (ownFn Try.prog e98 (c_impl_flip))) (by rfl)]
  exact ko_impl_flip
theorem y60 : FunOK Try.prog 60 (ownFn Try.prog e60 (c_impl_LensFlip 89 98)) := ownFn_ok e60_ok (mkEnv_pur _ _) (md := Md) (by kernel_rfl) (by kernel_rfl)
noncomputable def e90 : Env := mkEnv [] []
theorem e90_ok : EnvOK Try.prog e90 := mkEnv_ok (by intro p hp; cases hp) (by intro p hp; cases hp)
theorem o90 : PureOK Try.prog 90 true (FA fun a : TStep × TStep => p_laws_eqStep a.1 a.2) := pure_tells e90_ok (mkEnv_pur _ _) (md := Md) (by kernel_rfl) (A := c_laws_eqStep) (by kernel_rfl) (by
  rintro ⟨x, y⟩ b hb
  exact d_laws_eqStep x y hb)
noncomputable def e51 : Env := mkEnv [(90, true, FA fun a : TStep × TStep => p_laws_eqStep a.1 a.2)] []
theorem e51_ok : EnvOK Try.prog e51 := mkEnv_ok (by
  intro p hp
  simp only [List.mem_cons, List.not_mem_nil, or_false] at hp
  subst hp
  exact o90) (by intro p hp; cases hp)
theorem u51_90 : e51 (2 * 90) = pureFn true (FA fun a : TStep × TStep => p_laws_eqStep a.1 a.2) := by
  unfold e51
  exact mkEnv_at (by rfl)
theorem o51 : PureOK Try.prog 51 true (FA fun a : List TStep × List TStep => p_laws_eqStepS a.1 a.2) := pure_tells e51_ok (mkEnv_pur _ _) (md := Md) (by kernel_rfl) (A := c_laws_eqStepS 90) (by kernel_rfl) (by
  rintro ⟨x, y⟩ b hb
  exact d_laws_eqStepS u51_90 x y hb)
noncomputable def e85 : Env := mkEnv [] []
theorem e85_ok : EnvOK Try.prog e85 := mkEnv_ok (by intro p hp; cases hp) (by intro p hp; cases hp)
theorem o85 : PureOK Try.prog 85 true (FA fun a : Int => p_laws_markText a) := pure_tells e85_ok (mkEnv_pur _ _) (md := Md) (by kernel_rfl) (A := c_laws_markText) (by kernel_rfl) (by
  rintro x b hb
  exact d_laws_markText x hb)
noncomputable def e52 : Env := mkEnv [(85, true, FA fun a : Int => p_laws_markText a)] []
theorem e52_ok : EnvOK Try.prog e52 := mkEnv_ok (by
  intro p hp
  simp only [List.mem_cons, List.not_mem_nil, or_false] at hp
  subst hp
  exact o85) (by intro p hp; cases hp)
theorem u52_85 : e52 (2 * 85) = pureFn true (FA fun a : Int => p_laws_markText a) := by
  unfold e52
  exact mkEnv_at (by rfl)
theorem y52 : FunOK Try.prog 52 (runIn Try.prog e52 (c_laws_markStepS 85)) := runIn_ok e52_ok (mkEnv_pur _ _) (md := Md) (by kernel_rfl) (by kernel_rfl)
noncomputable def e53 : Env := mkEnv [(85, true, FA fun a : Int => p_laws_markText a)] []
theorem e53_ok : EnvOK Try.prog e53 := mkEnv_ok (by
  intro p hp
  simp only [List.mem_cons, List.not_mem_nil, or_false] at hp
  subst hp
  exact o85) (by intro p hp; cases hp)
theorem u53_85 : e53 (2 * 85) = pureFn true (FA fun a : Int => p_laws_markText a) := by
  unfold e53
  exact mkEnv_at (by rfl)
theorem o53 : PureOK Try.prog 53 true (FA fun a : List TStep × Int => p_laws_heldStepS a.1 a.2) := pure_tells e53_ok (mkEnv_pur _ _) (md := Md) (by kernel_rfl) (A := c_laws_heldStepS 85) (by kernel_rfl) (by
  rintro ⟨x, y⟩ b hb
  exact d_laws_heldStepS u53_85 x y hb)
noncomputable def e12 : Env := mkEnv [(47, true, FA fun a : List TStep × Int => p_laws_szStepS a.1 a.2), (51, true, FA fun a : List TStep × List TStep => p_laws_eqStepS a.1 a.2), (53, true, FA fun a : List TStep × Int => p_laws_heldStepS a.1 a.2)] [(49, (ownFn Try.prog e49 (c_laws_toStepS 88))), (59, (ownFn Try.prog e59 (c_spec_LensFlip 87 97))), (60, (ownFn Try.prog e60 (c_impl_LensFlip 89 98))), (52, (runIn Try.prog e52 (c_laws_markStepS 85)))]
theorem e12_ok : EnvOK Try.prog e12 := mkEnv_ok (by
  intro p hp
  simp only [List.mem_cons, List.not_mem_nil, or_false] at hp
  rcases hp with rfl | rfl | rfl
  · exact o47
  · exact o51
  · exact o53) (by
  intro p hp
  simp only [List.mem_cons, List.not_mem_nil, or_false] at hp
  rcases hp with rfl | rfl | rfl | rfl
  · exact y49
  · exact y59
  · exact y60
  · exact y52)
theorem u12_47 : e12 (2 * 47) = pureFn true (FA fun a : List TStep × Int => p_laws_szStepS a.1 a.2) := by
  unfold e12
  exact mkEnv_at (by rfl)
theorem u12_51 : e12 (2 * 51) = pureFn true (FA fun a : List TStep × List TStep => p_laws_eqStepS a.1 a.2) := by
  unfold e12
  exact mkEnv_at (by rfl)
theorem u12_53 : e12 (2 * 53) = pureFn true (FA fun a : List TStep × Int => p_laws_heldStepS a.1 a.2) := by
  unfold e12
  exact mkEnv_at (by rfl)
theorem x12_49 : k_laws_toStepS (e12 (2 * 49 + 1)) := by
  unfold e12
  rw [mkEnv_own (g := (ownFn Try.prog e49 (c_laws_toStepS 88))) (by rfl)]
  exact ko_laws_toStepS u49_88
theorem x12_59 : k_spec_LensFlip (e12 (2 * 59 + 1)) := by
  unfold e12
  rw [mkEnv_own (g := (ownFn Try.prog e59 (c_spec_LensFlip 87 97))) (by rfl)]
  exact ko_spec_LensFlip u59_87 x59_97
theorem x12_60 : k_impl_LensFlip (e12 (2 * 60 + 1)) := by
  unfold e12
  rw [mkEnv_own (g := (ownFn Try.prog e60 (c_impl_LensFlip 89 98))) (by rfl)]
  exact ko_impl_LensFlip u60_89 x60_98
theorem x12_52 : k_laws_markStepS (e12 (2 * 52 + 1)) := by
  unfold e12
  rw [mkEnv_own (g := (runIn Try.prog e52 (c_laws_markStepS 85))) (by rfl)]
  exact ko_laws_markStepS u52_85
theorem law : LawOK Try.prog 12 [.sl 56 (.st [.int .i64, .str, .str, .str])] := law_of_run e12_ok (mkEnv_pur _ _) (md := Md) (A := c_laws_FnExactLensFlip 47 49 59 60 51 52 53) (by kernel_rfl) (by
  intro xs hx
  cases hx with
  | cons h0 hx =>
  cases hx
  obtain ⟨a0, rfl, k0⟩ := fit_sl (α := TStep) rfl (fun x hx => fit_TStep hx) h0
  exact d_laws_FnExactLensFlip u12_47 u12_51 u12_53 x12_49 x12_59 x12_60 x12_52 a0 (plain_LensFlip a0 k0))
theorem own : ownKnob Try.prog.godebug = none := by kernel_rfl
theorem laidOut : laidOutB Try.prog = true := by kernel_rfl
set_option maxRecDepth 100000 in
theorem lifted (os : Os) (started : os.Started) (H : Type) (enc : TypeId × Value → H) :
    ReturnsInHanded {} Try.checked os 12 .any (Rows.fnExactLensFlipSpec.pre6 enc Try.prog Try.f12 Rows.fnExactLensFlipRow.domain false) (Rows.fnExactLensFlipSpec.post enc Try.prog Try.f12 false true false false) := by
  refine returnsInHanded_of_change_sized (C := Try.checked) own started (by kernel_rfl) Try.func12
    (ChangeSpec.witness6 (enc := enc) (C := Try.checked) false ⟨#[], #[.slice none 0 0], []⟩ 8 (by kernel_rfl) (by kernel_rfl) (by kernel_rfl) (by kernel_rfl)) ?_
  intro W base args ds gs before hval hW hcnd hsz _
  refine law_contract (n := 8) (tb := 4) (shs := [.sl 56 (.st [.int .i64, .str, .str, .str])]) laidOut rfl ?_ (by kernel_rfl) Try.underlying4 (by kernel_rfl) (by kernel_rfl) law W base args ds gs before hval hW hsz
  intro ds hds
  have h1 : ds.length = 1 := hds
  match ds, h1 with
  | [d0], _ => rfl
theorem over : Rows.fnExactLensFlipRow.holds Try.pinned (OpenSpec.ofChange Rows.fnExactLensFlipSpec) :=
  OpenClaim.holds_of_wide 12 Try.f12 rfl rfl rfl rfl rfl rfl rfl ⟨rfl, rfl, rfl, rfl, rfl⟩ rfl rfl rfl rfl rfl (by kernel_rfl) Try.func12 (by kernel_rfl)
    (of_decide_eq_true (by kernel_rfl)) (by unfold Func.isWrapper; first | (rw [if_pos (by decide +kernel)]; kernel_rfl) | (rw [if_neg (by decide +kernel)]; exact ⟨rfl, rfl⟩))
    (fun os started H enc _ => lifted os started H enc)
theorem proved : Rows.FnExactLensFlipSaid := over
#print axioms proved
end Go.Proofs.Ytjnkmdphjopboaa.RFnExactLensFlip
namespace Go.Proofs.Ytjnkmdphjopboaa
/-- The row, under a short name, for the claim. -/
theorem fnExactLensFlip_holds : Rows.FnExactLensFlipSaid := RFnExactLensFlip.proved
end Go.Proofs.Ytjnkmdphjopboaa
