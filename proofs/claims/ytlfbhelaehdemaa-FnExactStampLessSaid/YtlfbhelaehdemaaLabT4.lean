import Derived.Test.YtlfbhelaehdemaaRows
import Derived.Test.YtlfbhelaehdemaaLabT3
import Derived.WalkKit
import Derived.ProofKit
set_option linter.unusedVariables false
namespace Go.Proofs.Ytlfbhelaehdemaa.RFnExactStampLess
open Go.AM
def e0 : PEnv := []
theorem e0_ok : EnvOK Try.prog (penv e0) := penv_ok _ (by intro p hp; cases hp)
theorem o16 : PureOK Try.prog 16 true F_stampId := d_laws_toStamp.ok e0_ok (ppur_ok _) (by kernel_rfl) (A := c_laws_toStamp) (by kernel_rfl)
theorem o18 : PureOK Try.prog 18 true F_stampLess := d_spec_StampLess.ok e0_ok (ppur_ok _) (by kernel_rfl) (A := c_spec_StampLess) (by kernel_rfl)
theorem o19 : PureOK Try.prog 19 true F_stampLess := d_impl_StampLess.ok e0_ok (ppur_ok _) (by kernel_rfl) (A := c_impl_StampLess) (by kernel_rfl)
def e1 : PEnv := [(16, true, F_stampId), (18, true, F_stampLess), (19, true, F_stampLess)]
theorem e1_ok : EnvOK Try.prog (penv e1) := penv_ok _ (by
  intro p hp
  simp only [e1, List.mem_cons, List.not_mem_nil, or_false] at hp
  rcases hp with rfl | rfl | rfl
  · exact o16
  · exact o18
  · exact o19)
theorem law : LawOK Try.prog 5 [.st [.int .i64, .int .i64], .st [.int .i64, .int .i64]] := law_of_run e1_ok (ppur_ok _) (A := c_laws_FnExactStampLess 16 18 19) (by kernel_rfl) (l_FnExactStampLess rfl rfl rfl)
theorem own : ownKnob Try.prog.godebug = none := by kernel_rfl
theorem laidOut : laidOutB Try.prog = true := by kernel_rfl
set_option maxRecDepth 100000 in
theorem lifted (os : Os) (started : os.Started) (H : Type) (enc : TypeId × Value → H) :
    ReturnsInHanded {} Try.checked os 5 .any (Rows.fnExactStampLessSpec.pre6 enc Try.prog Try.f5 Rows.fnExactStampLessRow.domain false) (Rows.fnExactStampLessSpec.post enc Try.prog Try.f5 false true false false) := by
  refine returnsInHanded_of_change_sized (C := Try.checked) own started (by kernel_rfl) Try.func5
    (ChangeSpec.witness6 (enc := enc) (C := Try.checked) false ⟨#[], #[.agg #[.int .i64 0, .int .i64 0], .agg #[.int .i64 0, .int .i64 0]], []⟩ 8 (by kernel_rfl) (by kernel_rfl) (by kernel_rfl) (by kernel_rfl)) ?_
  intro W base args ds gs before hval hW hcnd hsz _
  refine law_contract (n := 8) (tb := 4) (shs := [.st [.int .i64, .int .i64], .st [.int .i64, .int .i64]]) laidOut rfl ?_ (by kernel_rfl) Try.underlying4 (by kernel_rfl) (by kernel_rfl) law W base args ds gs before hval hW hsz
  intro ds hds
  have h1 : ds.length = 2 := hds
  match ds, h1 with
  | [d, d2], _ => rfl
theorem over : Rows.fnExactStampLessRow.holds Try.pinned (OpenSpec.ofChange Rows.fnExactStampLessSpec) :=
  OpenClaim.holds_of_wide 5 Try.f5 rfl rfl rfl rfl rfl rfl rfl ⟨rfl, rfl, rfl, rfl, rfl⟩ rfl rfl rfl rfl rfl (by kernel_rfl) Try.func5 (by kernel_rfl)
    (of_decide_eq_true (by kernel_rfl)) (by unfold Func.isWrapper; first | (rw [if_pos (by decide +kernel)]; kernel_rfl) | (rw [if_neg (by decide +kernel)]; exact ⟨rfl, rfl⟩))
    (fun os started H enc _ => lifted os started H enc)
theorem proved : Rows.FnExactStampLessSaid := over
#print axioms proved
end Go.Proofs.Ytlfbhelaehdemaa.RFnExactStampLess
namespace Go.Proofs.Ytlfbhelaehdemaa
/-- The row, under a short name, for the claim. -/
theorem fnExactStampLess_holds : Rows.FnExactStampLessSaid := RFnExactStampLess.proved
end Go.Proofs.Ytlfbhelaehdemaa
