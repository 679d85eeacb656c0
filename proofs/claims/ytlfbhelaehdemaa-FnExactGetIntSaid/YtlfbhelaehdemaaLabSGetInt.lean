/- The law FnExactGetInt: its functions' contracts, its run, its row. No condition. -/
import Derived.Test.YtlfbhelaehdemaaRows
import Derived.Test.YtlfbhelaehdemaaLabPGetInt
import Derived.WalkKit
import Derived.ProofKit
set_option linter.unusedVariables false
namespace Go.Proofs.Ytlfbhelaehdemaa.RFnExactGetInt
open Go.AM
open Pic (enc dec dec_enc dec_sub)
def Md : Modes := fun f => if f == 21 then 1 else if f == 25 then 1 else if f == 26 then 2 else if f == 30 then 1 else if f == 39 then 1 else if f == 46 then 1 else if f == 51 then 1 else if f == 52 then 2 else if f == 58 then 2 else if f == 60 then 1 else if f == 66 then 2 else if f == 68 then 2 else if f == 73 then 2 else 0
def Ap : Nat → Bool := fun f => Md f == 1
noncomputable def e21 : Env := mkEnv [] []
theorem e21_ok : EnvOK Try.prog e21 := mkEnv_ok (by intro p hp; cases hp) (by intro p hp; cases hp)
theorem w21_pur : ∀ c, opens Ap c = true → PurEnv e21 c := mkEnv_pur _ _ (by intro p hp; cases hp)
theorem y21 : FunOK Try.prog 21 (ownFn Try.prog e21 (c_laws_toByteS)) := ownFn_ok e21_ok w21_pur (md := Md) (by kernel_rfl) (by kernel_rfl)
noncomputable def e67 : Env := mkEnv [] []
theorem e67_ok : EnvOK Try.prog e67 := mkEnv_ok (by intro p hp; cases hp) (by intro p hp; cases hp)
theorem w67_pur : ∀ c, opens Ap c = true → PurEnv e67 c := mkEnv_pur _ _ (by intro p hp; cases hp)
theorem o67 : PureOK Try.prog 67 true (FA fun a : List U8 × Int => p_spec_l01Get a.1 a.2) := pure_tells e67_ok w67_pur (md := Md) (by kernel_rfl) (A := c_spec_l01Get) (by kernel_rfl) (by
  rintro ⟨x, y⟩ b hb
  exact d_spec_l01Get x y hb)
noncomputable def e40 : Env := mkEnv [(67, true, FA fun a : List U8 × Int => p_spec_l01Get a.1 a.2)] []
theorem e40_ok : EnvOK Try.prog e40 := mkEnv_ok (by
  intro p hp
  simp only [List.mem_cons, List.not_mem_nil, or_false] at hp
  subst hp
  exact o67) (by intro p hp; cases hp)
theorem w40_pur : ∀ c, opens Ap c = true → PurEnv e40 c := mkEnv_pur _ _ (by intro p hp; cases hp)
theorem u40_67 : e40 (2 * 67) = pureFn true (FA fun a : List U8 × Int => p_spec_l01Get a.1 a.2) := by
  unfold e40
  exact mkEnv_at (by rfl)
theorem o40 : PureOK Try.prog 40 true (FA fun a : List U8 × Int => p_spec_GetInt a.1 a.2) := pure_tells e40_ok w40_pur (md := Md) (by kernel_rfl) (A := c_spec_GetInt 67) (by kernel_rfl) (by
  rintro ⟨x, y⟩ b hb
  exact d_spec_GetInt u40_67 x y hb)
noncomputable def e68 : Env := mkEnv [] []
theorem e68_ok : EnvOK Try.prog e68 := mkEnv_ok (by intro p hp; cases hp) (by intro p hp; cases hp)
theorem w68_pur : ∀ c, opens Ap c = true → PurEnv e68 c := mkEnv_pur _ _ (by intro p hp; cases hp)
theorem y68 : FunOK Try.prog 68 (runIn Try.prog e68 (c_impl_reader_num)) := runIn_ok e68_ok w68_pur (md := Md) (by kernel_rfl) (by kernel_rfl)
noncomputable def e41 : Env := mkEnv [] [(68, (runIn Try.prog e68 (c_impl_reader_num)))]
theorem e41_ok : EnvOK Try.prog e41 := mkEnv_ok (by intro p hp; cases hp) (by
  intro p hp
  simp only [List.mem_cons, List.not_mem_nil, or_false] at hp
  subst hp
  exact y68)
theorem w41_pur : ∀ c, opens Ap c = true → PurEnv e41 c := mkEnv_pur _ _ (by
  intro p hp
  simp only [List.mem_cons, List.not_mem_nil, or_false] at hp
  subst hp
  intro h; exact absurd h (by rw [show Ap 68 = false from rfl]; exact Bool.false_ne_true))
theorem x41_68 : k_impl_reader_num (e41 (2 * 68 + 1)) := by
  unfold e41
  rw [mkEnv_own (g := (runIn Try.prog e68 (c_impl_reader_num))) (by rfl)]
  exact ko_impl_reader_num
theorem o41 : PureOK Try.prog 41 true (FA fun a : List U8 × Int => p_impl_GetInt a.1 a.2) := pure_tells e41_ok w41_pur (md := Md) (by kernel_rfl) (A := c_impl_GetInt 68) (by kernel_rfl) (by
  rintro ⟨x, y⟩ b hb
  exact d_impl_GetInt x41_68 x y hb)
noncomputable def e23 : Env := mkEnv [] []
theorem e23_ok : EnvOK Try.prog e23 := mkEnv_ok (by intro p hp; cases hp) (by intro p hp; cases hp)
theorem w23_pur : ∀ c, opens Ap c = true → PurEnv e23 c := mkEnv_pur _ _ (by intro p hp; cases hp)
theorem o23 : PureOK Try.prog 23 true (FA fun a : List U8 × List U8 => p_laws_eqByteS a.1 a.2) := pure_tells e23_ok w23_pur (md := Md) (by kernel_rfl) (A := c_laws_eqByteS) (by kernel_rfl) (by
  rintro ⟨x, y⟩ b hb
  exact d_laws_eqByteS x y hb)
noncomputable def e11 : Env := mkEnv [(40, true, FA fun a : List U8 × Int => p_spec_GetInt a.1 a.2), (41, true, FA fun a : List U8 × Int => p_impl_GetInt a.1 a.2), (23, true, FA fun a : List U8 × List U8 => p_laws_eqByteS a.1 a.2)] [(21, (ownFn Try.prog e21 (c_laws_toByteS)))]
theorem e11_ok : EnvOK Try.prog e11 := mkEnv_ok (by
  intro p hp
  simp only [List.mem_cons, List.not_mem_nil, or_false] at hp
  rcases hp with rfl | rfl | rfl
  · exact o40
  · exact o41
  · exact o23) (by
  intro p hp
  simp only [List.mem_cons, List.not_mem_nil, or_false] at hp
  subst hp
  exact y21)
theorem w11_pur : ∀ c, opens Ap c = true → PurEnv e11 c := mkEnv_pur _ _ (by
  intro p hp
  simp only [List.mem_cons, List.not_mem_nil, or_false] at hp
  subst hp
  intro _; exact ownFn_app)
theorem u11_40 : e11 (2 * 40) = pureFn true (FA fun a : List U8 × Int => p_spec_GetInt a.1 a.2) := by
  unfold e11
  exact mkEnv_at (by rfl)
theorem u11_41 : e11 (2 * 41) = pureFn true (FA fun a : List U8 × Int => p_impl_GetInt a.1 a.2) := by
  unfold e11
  exact mkEnv_at (by rfl)
theorem u11_23 : e11 (2 * 23) = pureFn true (FA fun a : List U8 × List U8 => p_laws_eqByteS a.1 a.2) := by
  unfold e11
  exact mkEnv_at (by rfl)
theorem x11_21 : k_laws_toByteS (e11 (2 * 21 + 1)) := by
  unfold e11
  rw [mkEnv_own (g := (ownFn Try.prog e21 (c_laws_toByteS))) (by rfl)]
  exact ko_laws_toByteS
theorem law : LawOK Try.prog 11 [.sl 1 (.int .u8), .int .i64] := law_of_run e11_ok w11_pur (md := Md) (A := c_laws_FnExactGetInt 21 40 41 23) (by kernel_rfl) (by
  intro xs hx
  cases hx with
  | cons h0 hx =>
  cases hx with
  | cons h1 hx =>
  cases hx
  obtain ⟨a0, rfl, k0⟩ := fit_sl (α := U8) rfl (fun x hx => fit_u8 hx) h0
  obtain ⟨a1, rfl, k1⟩ := fit_int h1
  exact d_laws_FnExactGetInt u11_40 u11_41 u11_23 x11_21 a0 a1 (plain_GetInt a0 a1 k0 k1))
theorem own : ownKnob Try.prog.godebug = none := by kernel_rfl
theorem laidOut : laidOutB Try.prog = true := by kernel_rfl
set_option maxRecDepth 100000 in
theorem lifted (os : Os) (started : os.Started) (H : Type) (enc : TypeId × Value → H) :
    ReturnsInHanded {} Try.checked os 11 .any (Rows.fnExactGetIntSpec.pre6 enc Try.prog Try.f11 Rows.fnExactGetIntRow.domain false) (Rows.fnExactGetIntSpec.post enc Try.prog Try.f11 false true false false) := by
  refine returnsInHanded_of_change_sized (C := Try.checked) own started (by kernel_rfl) Try.func11
    (ChangeSpec.witness6 (enc := enc) (C := Try.checked) false ⟨#[], #[.slice none 0 0, .int .i64 0], []⟩ 8 (by kernel_rfl) (by kernel_rfl) (by kernel_rfl) (by kernel_rfl)) ?_
  intro W base args ds gs before hval hW hcnd hsz _
  refine law_contract (n := 8) (tb := 4) (shs := [.sl 1 (.int .u8), .int .i64]) laidOut rfl ?_ (by kernel_rfl) Try.underlying4 (by kernel_rfl) (by kernel_rfl) law W base args ds gs before hval hW hsz
  intro ds hds
  have h1 : ds.length = 2 := hds
  match ds, h1 with
  | [d0, d1], _ => rfl
theorem over : Rows.fnExactGetIntRow.holds Try.pinned (OpenSpec.ofChange Rows.fnExactGetIntSpec) :=
  OpenClaim.holds_of_wide 11 Try.f11 rfl rfl rfl rfl rfl rfl rfl ⟨rfl, rfl, rfl, rfl, rfl⟩ rfl rfl rfl rfl rfl (by kernel_rfl) Try.func11 (by kernel_rfl)
    (of_decide_eq_true (by kernel_rfl)) (by unfold Func.isWrapper; first | (rw [if_pos (by decide +kernel)]; kernel_rfl) | (rw [if_neg (by decide +kernel)]; exact ⟨rfl, rfl⟩))
    (fun os started H enc _ => lifted os started H enc)
theorem proved : Rows.FnExactGetIntSaid := over
#print axioms proved
end Go.Proofs.Ytlfbhelaehdemaa.RFnExactGetInt
namespace Go.Proofs.Ytlfbhelaehdemaa
/-- The row, under a short name, for the claim. -/
theorem fnExactGetInt_holds : Rows.FnExactGetIntSaid := RFnExactGetInt.proved
end Go.Proofs.Ytlfbhelaehdemaa
