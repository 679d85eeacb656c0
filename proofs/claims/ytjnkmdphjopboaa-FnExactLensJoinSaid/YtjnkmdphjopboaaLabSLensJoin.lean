/- The law FnExactLensJoin: its functions' contracts, its run, its row. No condition. -/
import Derived.Test.YtjnkmdphjopboaaRows
import Derived.Test.YtjnkmdphjopboaaLabPLensJoin
import Derived.WalkKit
import Derived.ProofKit
set_option linter.unusedVariables false
namespace Go.Proofs.Ytjnkmdphjopboaa.RFnExactLensJoin
open Go.AM
open Pic (enc dec dec_enc dec_sub)
def Md : Modes := fun f => if f == 16 then 4 else if f == 17 then 1 else if f == 21 then 4 else if f == 22 then 1 else if f == 23 then 1 else if f == 25 then 2 else if f == 27 then 4 else if f == 28 then 1 else if f == 29 then 1 else if f == 32 then 2 else if f == 33 then 2 else if f == 35 then 4 else if f == 36 then 1 else if f == 37 then 4 else if f == 38 then 1 else if f == 39 then 2 else if f == 42 then 4 else if f == 43 then 1 else if f == 44 then 1 else if f == 46 then 2 else if f == 48 then 4 else if f == 49 then 1 else if f == 50 then 1 else if f == 52 then 2 else if f == 54 then 4 else if f == 55 then 1 else if f == 56 then 4 else if f == 57 then 1 else if f == 58 then 1 else if f == 59 then 4 else if f == 60 then 1 else if f == 61 then 4 else if f == 62 then 1 else if f == 65 then 4 else if f == 66 then 1 else if f == 67 then 1 else if f == 69 then 2 else if f == 74 then 4 else if f == 77 then 1 else if f == 80 then 2 else if f == 82 then 2 else if f == 84 then 2 else if f == 91 then 1 else if f == 93 then 1 else if f == 94 then 1 else if f == 95 then 2 else if f == 96 then 2 else if f == 98 then 1 else if f == 99 then 2 else if f == 100 then 2 else if f == 104 then 1 else if f == 106 then 1 else if f == 108 then 2 else if f == 119 then 2 else if f == 122 then 4 else if f == 123 then 4 else 0
def Ap : Nat → Bool := fun f => Md f == 1
def MdL : Modes := fun f => if Md f == 1 then 3 else Md f
def ApL : Nat → Bool := fun f => MdL f == 1
noncomputable def e86 : Env := mkEnv [] []
theorem e86_ok : EnvOK Try.prog e86 := mkEnv_ok (by intro p hp; cases hp) (by intro p hp; cases hp)
theorem w86_pur : ∀ c, opens Ap c = true → PurEnv e86 c := mkEnv_pur _ _ (by intro p hp; cases hp)
theorem o86 : PureOK Try.prog 86 true (FA fun a : TStep × Int => p_laws_szStep a.1 a.2) := pure_tells e86_ok w86_pur (md := Md) (by kernel_rfl) (A := c_laws_szStep) (by kernel_rfl) (by
  rintro ⟨x, y⟩ b hb
  exact d_laws_szStep x y hb)
noncomputable def e47 : Env := mkEnv [(86, true, FA fun a : TStep × Int => p_laws_szStep a.1 a.2)] []
theorem e47_ok : EnvOK Try.prog e47 := mkEnv_ok (by
  intro p hp
  simp only [List.mem_cons, List.not_mem_nil, or_false] at hp
  subst hp
  exact o86) (by intro p hp; cases hp)
theorem w47_pur : ∀ c, opens Ap c = true → PurEnv e47 c := mkEnv_pur _ _ (by intro p hp; cases hp)
theorem u47_86 : e47 (2 * 86) = pureFn true (FA fun a : TStep × Int => p_laws_szStep a.1 a.2) := by
  unfold e47
  exact mkEnv_at (by rfl)
theorem o47 : PureOK Try.prog 47 true (FA fun a : List TStep × Int => p_laws_szStepS a.1 a.2) := pure_tells e47_ok w47_pur (md := Md) (by kernel_rfl) (A := c_laws_szStepS 86) (by kernel_rfl) (by
  rintro ⟨x, y⟩ b hb
  exact d_laws_szStepS u47_86 x y hb)
noncomputable def e88 : Env := mkEnv [] []
theorem e88_ok : EnvOK Try.prog e88 := mkEnv_ok (by intro p hp; cases hp) (by intro p hp; cases hp)
theorem w88_pur : ∀ c, opens Ap c = true → PurEnv e88 c := mkEnv_pur _ _ (by intro p hp; cases hp)
theorem o88 : PureOK Try.prog 88 true (FA fun a : TStep => p_laws_toStep a) := pure_tells e88_ok w88_pur (md := Md) (by kernel_rfl) (A := c_laws_toStep) (by kernel_rfl) (by
  rintro x b hb
  exact d_laws_toStep x hb)
noncomputable def e49 : Env := mkEnv [(88, true, FA fun a : TStep => p_laws_toStep a)] []
theorem e49_ok : EnvOK Try.prog e49 := mkEnv_ok (by
  intro p hp
  simp only [List.mem_cons, List.not_mem_nil, or_false] at hp
  subst hp
  exact o88) (by intro p hp; cases hp)
theorem w49_pur : ∀ c, opens Ap c = true → PurEnv e49 c := mkEnv_pur _ _ (by intro p hp; cases hp)
theorem u49_88 : e49 (2 * 88) = pureFn true (FA fun a : TStep => p_laws_toStep a) := by
  unfold e49
  exact mkEnv_at (by rfl)
theorem o49 : PureOK Try.prog 49 true (FA fun a : List TStep => p_laws_toStepS a) := pure_tells e49_ok w49_pur (md := Md) (by kernel_rfl) (A := c_laws_toStepS 88) (by kernel_rfl) (by
  rintro x b hb
  exact d_laws_toStepS u49_88 x hb)
theorem y49 : FunOK Try.prog 49 (ownFn Try.prog e49 (c_laws_toStepS 88)) := ownFn_ok e49_ok w49_pur (md := Md) (by kernel_rfl) (by kernel_rfl)
noncomputable def e116 : Env := mkEnv [] []
theorem e116_ok : EnvOK Try.prog e116 := mkEnv_ok (by intro p hp; cases hp) (by intro p hp; cases hp)
theorem w116_pur : ∀ c, opens Ap c = true → PurEnv e116 c := mkEnv_pur _ _ (by intro p hp; cases hp)
theorem o116 : PureOK Try.prog 116 true (FA fun a : ByteArray => p_spec_l14Name a) := pure_tells e116_ok w116_pur (md := Md) (by kernel_rfl) (A := c_spec_l14Name) (by kernel_rfl) (by
  rintro x b hb
  exact d_spec_l14Name x hb)
noncomputable def e87 : Env := mkEnv [(116, true, FA fun a : ByteArray => p_spec_l14Name a)] []
theorem e87_ok : EnvOK Try.prog e87 := mkEnv_ok (by
  intro p hp
  simp only [List.mem_cons, List.not_mem_nil, or_false] at hp
  subst hp
  exact o116) (by intro p hp; cases hp)
theorem w87_pur : ∀ c, opens Ap c = true → PurEnv e87 c := mkEnv_pur _ _ (by intro p hp; cases hp)
theorem u87_116 : e87 (2 * 116) = pureFn true (FA fun a : ByteArray => p_spec_l14Name a) := by
  unfold e87
  exact mkEnv_at (by rfl)
theorem o87 : PureOK Try.prog 87 true (FA fun a : List TStep => p_spec_l14LensOK a) := pure_tells e87_ok w87_pur (md := Md) (by kernel_rfl) (A := c_spec_l14LensOK 116) (by kernel_rfl) (by
  rintro x b hb
  exact d_spec_l14LensOK u87_116 x hb)
noncomputable def e48 : Env := mkEnv [(87, true, FA fun a : List TStep => p_spec_l14LensOK a)] []
theorem e48_ok : EnvOK Try.prog e48 := mkEnv_ok (by
  intro p hp
  simp only [List.mem_cons, List.not_mem_nil, or_false] at hp
  subst hp
  exact o87) (by intro p hp; cases hp)
theorem w48_pur : ∀ c, opens Ap c = true → PurEnv e48 c := mkEnv_pur _ _ (by intro p hp; cases hp)
theorem u48_87 : e48 (2 * 87) = pureFn true (FA fun a : List TStep => p_spec_l14LensOK a) := by
  unfold e48
  exact mkEnv_at (by rfl)
theorem o48 : PureOK Try.prog 48 true (FA fun a : List TStep × List TStep => p_spec_LensJoin a.1 a.2) := pure_tells e48_ok w48_pur (md := Md) (by kernel_rfl) (A := c_spec_LensJoin 87) (by kernel_rfl) (by
  rintro ⟨x, y⟩ b hb
  exact d_spec_LensJoin u48_87 x y hb)
noncomputable def e128 : Env := mkEnv [] []
theorem e128_ok : EnvOK Try.prog e128 := mkEnv_ok (by intro p hp; cases hp) (by intro p hp; cases hp)
theorem w128_pur : ∀ c, opens Ap c = true → PurEnv e128 c := mkEnv_pur _ _ (by intro p hp; cases hp)
theorem o128 : PureOK Try.prog 128 true (FA fun a : ByteArray => p_impl_nameOK a) := pure_tells e128_ok w128_pur (md := Md) (by kernel_rfl) (A := c_impl_nameOK) (by kernel_rfl) (by
  rintro x b hb
  exact d_impl_nameOK x hb)
noncomputable def e117 : Env := mkEnv [(128, true, FA fun a : ByteArray => p_impl_nameOK a)] []
theorem e117_ok : EnvOK Try.prog e117 := mkEnv_ok (by
  intro p hp
  simp only [List.mem_cons, List.not_mem_nil, or_false] at hp
  subst hp
  exact o128) (by intro p hp; cases hp)
theorem w117_pur : ∀ c, opens Ap c = true → PurEnv e117 c := mkEnv_pur _ _ (by intro p hp; cases hp)
theorem u117_128 : e117 (2 * 128) = pureFn true (FA fun a : ByteArray => p_impl_nameOK a) := by
  unfold e117
  exact mkEnv_at (by rfl)
theorem o117 : PureOK Try.prog 117 true (FA fun a : TStep => p_impl_stepOK a) := pure_tells e117_ok w117_pur (md := Md) (by kernel_rfl) (A := c_impl_stepOK 128) (by kernel_rfl) (by
  rintro x b hb
  exact d_impl_stepOK u117_128 x hb)
noncomputable def e89 : Env := mkEnv [(117, true, FA fun a : TStep => p_impl_stepOK a)] []
theorem e89_ok : EnvOK Try.prog e89 := mkEnv_ok (by
  intro p hp
  simp only [List.mem_cons, List.not_mem_nil, or_false] at hp
  subst hp
  exact o117) (by intro p hp; cases hp)
theorem w89_pur : ∀ c, opens Ap c = true → PurEnv e89 c := mkEnv_pur _ _ (by intro p hp; cases hp)
theorem u89_117 : e89 (2 * 117) = pureFn true (FA fun a : TStep => p_impl_stepOK a) := by
  unfold e89
  exact mkEnv_at (by rfl)
theorem o89 : PureOK Try.prog 89 true (FA fun a : List TStep => p_impl_lensOK a) := pure_tells e89_ok w89_pur (md := Md) (by kernel_rfl) (A := c_impl_lensOK 117) (by kernel_rfl) (by
  rintro x b hb
  exact d_impl_lensOK u89_117 x hb)
noncomputable def e50 : Env := mkEnv [(89, true, FA fun a : List TStep => p_impl_lensOK a)] []
theorem e50_ok : EnvOK Try.prog e50 := mkEnv_ok (by
  intro p hp
  simp only [List.mem_cons, List.not_mem_nil, or_false] at hp
  subst hp
  exact o89) (by intro p hp; cases hp)
theorem w50_pur : ∀ c, opens Ap c = true → PurEnv e50 c := mkEnv_pur _ _ (by intro p hp; cases hp)
theorem u50_89 : e50 (2 * 89) = pureFn true (FA fun a : List TStep => p_impl_lensOK a) := by
  unfold e50
  exact mkEnv_at (by rfl)
theorem y50 : FunOK Try.prog 50 (ownFn Try.prog e50 (c_impl_LensJoin 89)) := ownFn_ok e50_ok w50_pur (md := Md) (by kernel_rfl) (by kernel_rfl)
noncomputable def e90 : Env := mkEnv [] []
theorem e90_ok : EnvOK Try.prog e90 := mkEnv_ok (by intro p hp; cases hp) (by intro p hp; cases hp)
theorem w90_pur : ∀ c, opens Ap c = true → PurEnv e90 c := mkEnv_pur _ _ (by intro p hp; cases hp)
theorem o90 : PureOK Try.prog 90 true (FA fun a : TStep × TStep => p_laws_eqStep a.1 a.2) := pure_tells e90_ok w90_pur (md := Md) (by kernel_rfl) (A := c_laws_eqStep) (by kernel_rfl) (by
  rintro ⟨x, y⟩ b hb
  exact d_laws_eqStep x y hb)
noncomputable def e51 : Env := mkEnv [(90, true, FA fun a : TStep × TStep => p_laws_eqStep a.1 a.2)] []
theorem e51_ok : EnvOK Try.prog e51 := mkEnv_ok (by
  intro p hp
  simp only [List.mem_cons, List.not_mem_nil, or_false] at hp
  subst hp
  exact o90) (by intro p hp; cases hp)
theorem w51_pur : ∀ c, opens Ap c = true → PurEnv e51 c := mkEnv_pur _ _ (by intro p hp; cases hp)
theorem u51_90 : e51 (2 * 90) = pureFn true (FA fun a : TStep × TStep => p_laws_eqStep a.1 a.2) := by
  unfold e51
  exact mkEnv_at (by rfl)
theorem o51 : PureOK Try.prog 51 true (FA fun a : List TStep × List TStep => p_laws_eqStepS a.1 a.2) := pure_tells e51_ok w51_pur (md := Md) (by kernel_rfl) (A := c_laws_eqStepS 90) (by kernel_rfl) (by
  rintro ⟨x, y⟩ b hb
  exact d_laws_eqStepS u51_90 x y hb)
noncomputable def e85 : Env := mkEnv [] []
theorem e85_ok : EnvOK Try.prog e85 := mkEnv_ok (by intro p hp; cases hp) (by intro p hp; cases hp)
theorem w85_pur : ∀ c, opens Ap c = true → PurEnv e85 c := mkEnv_pur _ _ (by intro p hp; cases hp)
theorem o85 : PureOK Try.prog 85 true (FA fun a : Int => p_laws_markText a) := pure_tells e85_ok w85_pur (md := Md) (by kernel_rfl) (A := c_laws_markText) (by kernel_rfl) (by
  rintro x b hb
  exact d_laws_markText x hb)
noncomputable def e52 : Env := mkEnv [(85, true, FA fun a : Int => p_laws_markText a)] []
theorem e52_ok : EnvOK Try.prog e52 := mkEnv_ok (by
  intro p hp
  simp only [List.mem_cons, List.not_mem_nil, or_false] at hp
  subst hp
  exact o85) (by intro p hp; cases hp)
theorem w52_pur : ∀ c, opens Ap c = true → PurEnv e52 c := mkEnv_pur _ _ (by intro p hp; cases hp)
theorem u52_85 : e52 (2 * 85) = pureFn true (FA fun a : Int => p_laws_markText a) := by
  unfold e52
  exact mkEnv_at (by rfl)
theorem y52 : FunOK Try.prog 52 (runIn Try.prog e52 (c_laws_markStepS 85)) := runIn_ok e52_ok w52_pur (md := Md) (by kernel_rfl) (by kernel_rfl)
noncomputable def e53 : Env := mkEnv [(85, true, FA fun a : Int => p_laws_markText a)] []
theorem e53_ok : EnvOK Try.prog e53 := mkEnv_ok (by
  intro p hp
  simp only [List.mem_cons, List.not_mem_nil, or_false] at hp
  subst hp
  exact o85) (by intro p hp; cases hp)
theorem w53_pur : ∀ c, opens Ap c = true → PurEnv e53 c := mkEnv_pur _ _ (by intro p hp; cases hp)
theorem u53_85 : e53 (2 * 85) = pureFn true (FA fun a : Int => p_laws_markText a) := by
  unfold e53
  exact mkEnv_at (by rfl)
theorem o53 : PureOK Try.prog 53 true (FA fun a : List TStep × Int => p_laws_heldStepS a.1 a.2) := pure_tells e53_ok w53_pur (md := Md) (by kernel_rfl) (A := c_laws_heldStepS 85) (by kernel_rfl) (by
  rintro ⟨x, y⟩ b hb
  exact d_laws_heldStepS u53_85 x y hb)
noncomputable def e9 : Env := mkEnv [(47, true, FA fun a : List TStep × Int => p_laws_szStepS a.1 a.2), (49, true, FA fun a : List TStep => p_laws_toStepS a), (48, true, FA fun a : List TStep × List TStep => p_spec_LensJoin a.1 a.2), (51, true, FA fun a : List TStep × List TStep => p_laws_eqStepS a.1 a.2), (53, true, FA fun a : List TStep × Int => p_laws_heldStepS a.1 a.2)] [(49, (ownFn Try.prog e49 (c_laws_toStepS 88))), (50, (ownFn Try.prog e50 (c_impl_LensJoin 89))), (52, (runIn Try.prog e52 (c_laws_markStepS 85)))]
theorem e9_ok : EnvOK Try.prog e9 := mkEnv_ok (by
  intro p hp
  simp only [List.mem_cons, List.not_mem_nil, or_false] at hp
  rcases hp with rfl | rfl | rfl | rfl | rfl
  · exact o47
  · exact o49
  · exact o48
  · exact o51
  · exact o53) (by
  intro p hp
  simp only [List.mem_cons, List.not_mem_nil, or_false] at hp
  rcases hp with rfl | rfl | rfl
  · exact y49
  · exact y50
  · exact y52)
theorem w9_pur : ∀ c, opens ApL c = true → PurEnv e9 c := mkEnv_pur _ _ (by
  intro p hp
  simp only [List.mem_cons, List.not_mem_nil, or_false] at hp
  rcases hp with rfl | rfl | rfl
  · intro h; exact absurd h (by rw [show ApL 49 = false from rfl]; exact Bool.false_ne_true)
  · intro h; exact absurd h (by rw [show ApL 50 = false from rfl]; exact Bool.false_ne_true)
  · intro h; exact absurd h (by rw [show ApL 52 = false from rfl]; exact Bool.false_ne_true))
theorem u9_47 : e9 (2 * 47) = pureFn true (FA fun a : List TStep × Int => p_laws_szStepS a.1 a.2) := by
  unfold e9
  exact mkEnv_at (by rfl)
theorem u9_49 : e9 (2 * 49) = pureFn true (FA fun a : List TStep => p_laws_toStepS a) := by
  unfold e9
  exact mkEnv_at (by rfl)
theorem u9_48 : e9 (2 * 48) = pureFn true (FA fun a : List TStep × List TStep => p_spec_LensJoin a.1 a.2) := by
  unfold e9
  exact mkEnv_at (by rfl)
theorem u9_51 : e9 (2 * 51) = pureFn true (FA fun a : List TStep × List TStep => p_laws_eqStepS a.1 a.2) := by
  unfold e9
  exact mkEnv_at (by rfl)
theorem u9_53 : e9 (2 * 53) = pureFn true (FA fun a : List TStep × Int => p_laws_heldStepS a.1 a.2) := by
  unfold e9
  exact mkEnv_at (by rfl)
theorem x9_49 : k_laws_toStepS (e9 (2 * 49 + 1)) := by
  unfold e9
  rw [mkEnv_own (g := (ownFn Try.prog e49 (c_laws_toStepS 88))) (by rfl)]
  exact ko_laws_toStepS u49_88
theorem x9_50 : k_impl_LensJoin (e9 (2 * 50 + 1)) := by
  unfold e9
  rw [mkEnv_own (g := (ownFn Try.prog e50 (c_impl_LensJoin 89))) (by rfl)]
  exact ko_impl_LensJoin u50_89
theorem x9_52 : k_laws_markStepS (e9 (2 * 52 + 1)) := by
  unfold e9
  rw [mkEnv_own (g := (runIn Try.prog e52 (c_laws_markStepS 85))) (by rfl)]
  exact ko_laws_markStepS u52_85
theorem law : LawOK Try.prog 9 [.sl 56 (.st [.int .i64, .str, .str, .str]), .sl 56 (.st [.int .i64, .str, .str, .str])] := law_of_run e9_ok w9_pur (md := MdL) (A := c_laws_FnExactLensJoin 47 49 48 50 51 52 53) (by kernel_rfl) (by
  intro xs hx
  cases hx with
  | cons h0 hx =>
  cases hx with
  | cons h1 hx =>
  cases hx
  obtain ⟨a0, rfl, k0⟩ := fit_sl (α := TStep) rfl (fun x hx => fit_TStep hx) h0
  obtain ⟨a1, rfl, k1⟩ := fit_sl (α := TStep) rfl (fun x hx => fit_TStep hx) h1
  exact d_laws_FnExactLensJoin u9_47 u9_49 u9_48 u9_51 u9_53 x9_49 x9_50 x9_52 a0 a1 (plain_LensJoin a0 a1 k0 k1))
theorem own : ownKnob Try.prog.godebug = none := by kernel_rfl
theorem laidOut : laidOutB Try.prog = true := by kernel_rfl
set_option maxRecDepth 100000 in
theorem lifted (os : Os) (started : os.Started) (H : Type) (enc : TypeId × Value → H) :
    ReturnsInHanded {} Try.checked os 9 .any (Rows.fnExactLensJoinSpec.pre6 enc Try.prog Try.f9 Rows.fnExactLensJoinRow.domain false) (Rows.fnExactLensJoinSpec.post enc Try.prog Try.f9 false true false false) := by
  refine returnsInHanded_of_change_sized (C := Try.checked) own started (by kernel_rfl) Try.func9
    (ChangeSpec.witness6 (enc := enc) (C := Try.checked) false ⟨#[], #[.slice none 0 0, .slice none 0 0], []⟩ 8 (by kernel_rfl) (by kernel_rfl) (by kernel_rfl) (by kernel_rfl)) ?_
  intro W base args ds gs before hval hW hcnd hsz _
  refine law_contract (n := 8) (tb := 4) (shs := [.sl 56 (.st [.int .i64, .str, .str, .str]), .sl 56 (.st [.int .i64, .str, .str, .str])]) laidOut rfl ?_ (by kernel_rfl) Try.underlying4 (by kernel_rfl) (by kernel_rfl) law W base args ds gs before hval hW hsz
  intro ds hds
  have h1 : ds.length = 2 := hds
  match ds, h1 with
  | [d0, d1], _ => rfl
theorem over : Rows.fnExactLensJoinRow.holds Try.pinned (OpenSpec.ofChange Rows.fnExactLensJoinSpec) :=
  OpenClaim.holds_of_wide 9 Try.f9 rfl rfl rfl rfl rfl rfl rfl ⟨rfl, rfl, rfl, rfl, rfl⟩ rfl rfl rfl rfl rfl (by kernel_rfl) Try.func9 (by kernel_rfl)
    (of_decide_eq_true (by kernel_rfl)) (by unfold Func.isWrapper; first | (rw [if_pos (by decide +kernel)]; kernel_rfl) | (rw [if_neg (by decide +kernel)]; exact ⟨rfl, rfl⟩))
    (fun os started H enc _ => lifted os started H enc)
theorem proved : Rows.FnExactLensJoinSaid := over
#print axioms proved
end Go.Proofs.Ytjnkmdphjopboaa.RFnExactLensJoin
namespace Go.Proofs.Ytjnkmdphjopboaa
/-- The row, under a short name, for the claim. -/
theorem fnExactLensJoin_holds : Rows.FnExactLensJoinSaid := RFnExactLensJoin.proved
end Go.Proofs.Ytjnkmdphjopboaa
