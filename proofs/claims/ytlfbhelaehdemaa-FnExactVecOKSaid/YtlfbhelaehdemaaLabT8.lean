import Derived.Test.YtlfbhelaehdemaaRows
import Derived.Test.YtlfbhelaehdemaaLabT7
import Derived.Test.YtlfbhelaehdemaaLabA26
import Derived.WalkKit
import Derived.ProofKit
set_option linter.unusedVariables false
namespace Go.Proofs.Ytlfbhelaehdemaa.RFnExactVecOK
open Go.AM
open Pic (enc dec dec_enc dec_sub)
def e0 : PEnv := []
theorem e0_ok : EnvOK Try.prog (penv e0) := penv_ok _ (by intro p hp; cases hp)
theorem o59 : PureOK Try.prog 59 true (FA g_szIntS) := pure_typed e0_ok (ppur_ok _) (by kernel_rfl) (A := c_laws_szIntS) (by kernel_rfl) d_laws_szIntS
theorem o60 : PureOK Try.prog 60 true (FA g_toIntS) := pure_typed e0_ok (ppur_ok _) (by kernel_rfl) (A := c_laws_toIntS) (by kernel_rfl) d_laws_toIntS
theorem o61 : PureOK Try.prog 61 true (FA g_eqIntS) := pure_typed e0_ok (ppur_ok _) (by kernel_rfl) (A := c_laws_eqIntS) (by kernel_rfl) d_laws_eqIntS
theorem o29 : PureOK Try.prog 29 true (FA g_VecOK) := pure_typed e0_ok (ppur_ok _) (by kernel_rfl) (A := c_spec_VecOK) (by kernel_rfl) d_spec_VecOK
theorem o31 : PureOK Try.prog 31 true (FA g_VecOK) := pure_typed e0_ok (ppur_ok _) (by kernel_rfl) (A := c_impl_VecOK) (by kernel_rfl) d_impl_VecOK
def e1 : PEnv := [(59, true, FA g_szIntS), (60, true, FA g_toIntS), (61, true, FA g_eqIntS)]
theorem e1_ok : EnvOK Try.prog (penv e1) := penv_ok _ (by
  intro p hp
  simp only [e1, List.mem_cons, List.not_mem_nil, or_false] at hp
  rcases hp with rfl | rfl | rfl
  · exact o59
  · exact o60
  · exact o61)
theorem o28 : PureOK Try.prog 28 true (FA g_szVector) := pure_typed e1_ok (ppur_ok _) (by kernel_rfl) (A := c_laws_szVector 59) (by kernel_rfl) (d_laws_szVector rfl)
theorem o30 : PureOK Try.prog 30 true (FA g_toVector) := pure_typed e1_ok (ppur_ok _) (by kernel_rfl) (A := c_laws_toVector 60) (by kernel_rfl) (d_laws_toVector rfl)
theorem o32 : PureOK Try.prog 32 true (FA g_eqVector) := pure_typed e1_ok (ppur_ok _) (by kernel_rfl) (A := c_laws_eqVector 61) (by kernel_rfl) (d_laws_eqVector rfl)
def e2 : PEnv := [(28, true, FA g_szVector), (29, true, FA g_VecOK), (30, true, FA g_toVector), (31, true, FA g_VecOK), (32, true, FA g_eqVector)]
theorem e2_ok : EnvOK Try.prog (penv e2) := penv_ok _ (by
  intro p hp
  simp only [e2, List.mem_cons, List.not_mem_nil, or_false] at hp
  rcases hp with rfl | rfl | rfl | rfl | rfl
  · exact o28
  · exact o29
  · exact o30
  · exact o31
  · exact o32)
theorem law : LawOK Try.prog 8 [.st [.sl 8 (.int .i64)]] := law_of_run e2_ok (ppur_ok _) (A := c_laws_FnExactVecOK 28 29 30 31 32) (by kernel_rfl) (by
  intro xs hx
  cases hx with
  | cons h1 h2 =>
    cases h2
    cases h1 with
    | st h1 =>
      cases h1 with
      | cons a b =>
        cases b
        obtain ⟨l, rfl, hb, _⟩ := fit_sl (α := Int) rfl (fun x hx => fit_int hx) a
        rw [reach_eq] at hb
        exact l_FnExactVecOK rfl rfl rfl rfl rfl l (by omega))
theorem own : ownKnob Try.prog.godebug = none := by kernel_rfl
theorem laidOut : laidOutB Try.prog = true := by kernel_rfl
set_option maxRecDepth 100000 in
theorem lifted (os : Os) (started : os.Started) (H : Type) (enc : TypeId × Value → H) :
    ReturnsInHanded {} Try.checked os 8 .any (Rows.fnExactVecOKSpec.pre6 enc Try.prog Try.f8 Rows.fnExactVecOKRow.domain false) (Rows.fnExactVecOKSpec.post enc Try.prog Try.f8 false true false false) := by
  refine returnsInHanded_of_change_sized (C := Try.checked) own started (by kernel_rfl) Try.func8
    (ChangeSpec.witness6 (enc := enc) (C := Try.checked) false ⟨#[], #[.agg #[.slice none 0 0]], []⟩ 8 (by kernel_rfl) (by kernel_rfl) (by kernel_rfl) (by kernel_rfl)) ?_
  intro W base args ds gs before hval hW hcnd hsz _
  refine law_contract (n := 8) (tb := 4) (shs := [.st [.sl 8 (.int .i64)]]) laidOut rfl ?_ (by kernel_rfl) Try.underlying4 (by kernel_rfl) (by kernel_rfl) law W base args ds gs before hval hW hsz
  intro ds hds
  have h1 : ds.length = 1 := hds
  match ds, h1 with
  | [d], _ => rfl
theorem over : Rows.fnExactVecOKRow.holds Try.pinned (OpenSpec.ofChange Rows.fnExactVecOKSpec) :=
  OpenClaim.holds_of_wide 8 Try.f8 rfl rfl rfl rfl rfl rfl rfl ⟨rfl, rfl, rfl, rfl, rfl⟩ rfl rfl rfl rfl rfl (by kernel_rfl) Try.func8 (by kernel_rfl)
    (of_decide_eq_true (by kernel_rfl)) (by unfold Func.isWrapper; first | (rw [if_pos (by decide +kernel)]; kernel_rfl) | (rw [if_neg (by decide +kernel)]; exact ⟨rfl, rfl⟩))
    (fun os started H enc _ => lifted os started H enc)
theorem proved : Rows.FnExactVecOKSaid := over
#print axioms proved
end Go.Proofs.Ytlfbhelaehdemaa.RFnExactVecOK
namespace Go.Proofs.Ytlfbhelaehdemaa
/-- The row, under a short name, for the claim. -/
theorem fnExactVecOK_holds : Rows.FnExactVecOKSaid := RFnExactVecOK.proved
end Go.Proofs.Ytlfbhelaehdemaa
