import Derived.Test.YtlfbhelaehdemaaRows
import Derived.Test.YtlfbhelaehdemaaLabT1
import Derived.WalkKit
import Derived.ProofKit
set_option linter.unusedVariables false
namespace Go.Proofs.Ytlfbhelaehdemaa.RFnExactStampOK
open Go.AM
abbrev pur0 : Nat → Bool := fun _ => false
theorem pur0_ok (env : Env) : ∀ f, pur0 f = true → PurEnv env f := fun f h => by cases h
theorem k54 : compFn Try.prog pur0 54 = some c_impl_isActor := by kernel_rfl
theorem k15 : compFn Try.prog pur0 15 = some c_spec_StampOK := by kernel_rfl
theorem k16 : compFn Try.prog pur0 16 = some c_laws_toStamp := by kernel_rfl
theorem k17 : compFn Try.prog pur0 17 = some (c_impl_StampOK 54) := by kernel_rfl
theorem k4 : compFn Try.prog pur0 4 = some (c_laws_FnExactStampOK 15 16 17) := by kernel_rfl
def env0 : Env := envOf []
theorem env0_ok : EnvOK Try.prog env0 := envOf_ok [] (by simp)
theorem o54 : PureOK Try.prog 54 true F_isActor := d_impl_isActor.ok env0_ok (pur0_ok _) (by kernel_rfl) k54
theorem o15 : PureOK Try.prog 15 true F_stampOK := d_spec_StampOK.ok env0_ok (pur0_ok _) (by kernel_rfl) k15
theorem o16 : PureOK Try.prog 16 true F_stampId := d_laws_toStamp.ok env0_ok (pur0_ok _) (by kernel_rfl) k16
def env1 : Env := envOf [(54, pureFn true F_isActor)]
theorem env1_ok : EnvOK Try.prog env1 := envOf_ok _ (by
  intro p hp
  simp only [List.mem_cons, List.not_mem_nil, or_false] at hp
  subst hp
  exact pureFn_ok o54)
theorem o17 : PureOK Try.prog 17 true F_stampOK := (d_impl_StampOK (f54 := 54) rfl).ok env1_ok (pur0_ok _) (by kernel_rfl) k17
def env2 : Env := envOf [(15, pureFn true F_stampOK), (16, pureFn true F_stampId), (17, pureFn true F_stampOK)]
theorem env2_ok : EnvOK Try.prog env2 := envOf_ok _ (by
  intro p hp
  simp only [List.mem_cons, List.not_mem_nil, or_false] at hp
  rcases hp with rfl | rfl | rfl
  · exact pureFn_ok o15
  · exact pureFn_ok o16
  · exact pureFn_ok o17)
theorem law : LawOK Try.prog 4 [.st [.int .i64, .int .i64]] := law_of_run env2_ok (pur0_ok _) k4 (l_FnExactStampOK rfl rfl rfl)
theorem own : ownKnob Try.prog.godebug = none := by kernel_rfl
theorem laidOut : laidOutB Try.prog = true := by kernel_rfl
set_option maxRecDepth 100000 in
theorem lifted (os : Os) (started : os.Started) (H : Type) (enc : TypeId × Value → H) :
    ReturnsInHanded {} Try.checked os 4 .any (Rows.fnExactStampOKSpec.pre6 enc Try.prog Try.f4 Rows.fnExactStampOKRow.domain false) (Rows.fnExactStampOKSpec.post enc Try.prog Try.f4 false true false false) := by
  refine returnsInHanded_of_change_sized (C := Try.checked) own started (by kernel_rfl) Try.func4
    (ChangeSpec.witness6 (enc := enc) (C := Try.checked) false ⟨#[], #[.agg #[.int .i64 0, .int .i64 0]], []⟩ 8 (by kernel_rfl) (by kernel_rfl) (by kernel_rfl) (by kernel_rfl)) ?_
  intro W base args ds gs before hval hW hcnd hsz _
  refine law_contract (n := 8) (tb := 4) (shs := [.st [.int .i64, .int .i64]]) laidOut rfl ?_ (by kernel_rfl) Try.underlying4 (by kernel_rfl) (by kernel_rfl) law W base args ds gs before hval hW hsz
  intro ds hds
  have h1 : ds.length = 1 := hds
  match ds, h1 with
  | [d], _ => rfl
theorem over : Rows.fnExactStampOKRow.holds Try.pinned (OpenSpec.ofChange Rows.fnExactStampOKSpec) :=
  OpenClaim.holds_of_wide 4 Try.f4 rfl rfl rfl rfl rfl rfl rfl ⟨rfl, rfl, rfl, rfl, rfl⟩ rfl rfl rfl rfl rfl (by kernel_rfl) Try.func4 (by kernel_rfl)
    (of_decide_eq_true (by kernel_rfl)) (by unfold Func.isWrapper; first | (rw [if_pos (by decide +kernel)]; kernel_rfl) | (rw [if_neg (by decide +kernel)]; exact ⟨rfl, rfl⟩))
    (fun os started H enc _ => lifted os started H enc)
theorem proved : Rows.FnExactStampOKSaid := over
#print axioms proved
end Go.Proofs.Ytlfbhelaehdemaa.RFnExactStampOK
namespace Go.Proofs.Ytlfbhelaehdemaa
/-- The row, under a short name, for the claim. -/
theorem fnExactStampOK_holds : Rows.FnExactStampOKSaid := RFnExactStampOK.proved
end Go.Proofs.Ytlfbhelaehdemaa
