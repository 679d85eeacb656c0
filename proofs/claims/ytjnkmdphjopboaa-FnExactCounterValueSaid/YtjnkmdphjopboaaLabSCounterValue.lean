/- The law FnExactCounterValue: its functions' contracts, its run, its row. No condition. -/
import Derived.Test.YtjnkmdphjopboaaRows
import Derived.Test.YtjnkmdphjopboaaLabPCounterValue
import Derived.WalkKit
import Derived.ProofKit
set_option linter.unusedVariables false
namespace Go.Proofs.Ytjnkmdphjopboaa.RFnExactCounterValue
open Go.AM
open Pic (enc dec dec_enc dec_sub)
def Md : Modes := fun f => if f == 25 then 2 else if f == 32 then 2 else if f == 33 then 2 else if f == 39 then 2 else if f == 46 then 2 else if f == 52 then 2 else if f == 69 then 2 else if f == 80 then 2 else if f == 82 then 2 else if f == 84 then 2 else if f == 95 then 2 else if f == 96 then 2 else if f == 99 then 2 else if f == 100 then 2 else if f == 108 then 2 else if f == 119 then 2 else 0
noncomputable def e73 : Env := mkEnv [] []
theorem e73_ok : EnvOK Try.prog e73 := mkEnv_ok (by
  intro p hp
  cases hp) (by intro p hp; cases hp)
theorem o73 : PureOK Try.prog 73 true (FA fun a : List Int × Int => p_laws_szIntS a.1 a.2) := pure_tells e73_ok (mkEnv_pur _ _) (md := Md) (by kernel_rfl) (A := c_laws_szIntS) (by kernel_rfl) (by
  rintro ⟨x, y⟩ b hb
  exact d_laws_szIntS x y hb)
noncomputable def e20 : Env := mkEnv [(73, true, FA fun a : List Int × Int => p_laws_szIntS a.1 a.2)] []
theorem e20_ok : EnvOK Try.prog e20 := mkEnv_ok (by
  intro p hp
  simp only [List.mem_cons, List.not_mem_nil, or_false] at hp
  subst hp
  exact o73) (by intro p hp; cases hp)
theorem u20_73 : e20 (2 * 73) = pureFn true (FA fun a : List Int × Int => p_laws_szIntS a.1 a.2) := by
  unfold e20
  exact mkEnv_at (by rfl)
theorem o20 : PureOK Try.prog 20 true (FA fun a : TVec × Int => p_laws_szVector a.1 a.2) := pure_tells e20_ok (mkEnv_pur _ _) (md := Md) (by kernel_rfl) (A := c_laws_szVector 73) (by kernel_rfl) (by
  rintro ⟨x, y⟩ b hb
  exact d_laws_szVector u20_73 x y hb)
noncomputable def e15 : Env := mkEnv [(20, true, FA fun a : TVec × Int => p_laws_szVector a.1 a.2)] []
theorem e15_ok : EnvOK Try.prog e15 := mkEnv_ok (by
  intro p hp
  simp only [List.mem_cons, List.not_mem_nil, or_false] at hp
  subst hp
  exact o20) (by intro p hp; cases hp)
theorem u15_20 : e15 (2 * 20) = pureFn true (FA fun a : TVec × Int => p_laws_szVector a.1 a.2) := by
  unfold e15
  exact mkEnv_at (by rfl)
theorem o15 : PureOK Try.prog 15 true (FA fun a : TCounter × Int => p_laws_szCounter a.1 a.2) := pure_tells e15_ok (mkEnv_pur _ _) (md := Md) (by kernel_rfl) (A := c_laws_szCounter 20) (by kernel_rfl) (by
  rintro ⟨x, y⟩ b hb
  exact d_laws_szCounter u15_20 x y hb)
noncomputable def e28 : Env := mkEnv [] []
theorem e28_ok : EnvOK Try.prog e28 := mkEnv_ok (by
  intro p hp
  cases hp) (by intro p hp; cases hp)
theorem o28 : PureOK Try.prog 28 true (FA fun a : List Int => p_laws_toIntS a) := pure_tells e28_ok (mkEnv_pur _ _) (md := Md) (by kernel_rfl) (A := c_laws_toIntS) (by kernel_rfl) (by
  rintro x b hb
  exact d_laws_toIntS x hb)
noncomputable def e22 : Env := mkEnv [(28, true, FA fun a : List Int => p_laws_toIntS a)] []
theorem e22_ok : EnvOK Try.prog e22 := mkEnv_ok (by
  intro p hp
  simp only [List.mem_cons, List.not_mem_nil, or_false] at hp
  subst hp
  exact o28) (by intro p hp; cases hp)
theorem u22_28 : e22 (2 * 28) = pureFn true (FA fun a : List Int => p_laws_toIntS a) := by
  unfold e22
  exact mkEnv_at (by rfl)
theorem o22 : PureOK Try.prog 22 false (FA fun a : TVec => p_laws_toVector a) := pure_tells e22_ok (mkEnv_pur _ _) (md := Md) (by kernel_rfl) (A := c_laws_toVector 28) (by kernel_rfl) (by
  rintro x b hb
  exact d_laws_toVector u22_28 x hb)
noncomputable def e17 : Env := mkEnv [(22, false, FA fun a : TVec => p_laws_toVector a)] []
theorem e17_ok : EnvOK Try.prog e17 := mkEnv_ok (by
  intro p hp
  simp only [List.mem_cons, List.not_mem_nil, or_false] at hp
  subst hp
  exact o22) (by intro p hp; cases hp)
theorem u17_22 : e17 (2 * 22) = pureFn false (FA fun a : TVec => p_laws_toVector a) := by
  unfold e17
  exact mkEnv_at (by rfl)
theorem o17 : PureOK Try.prog 17 false (FA fun a : TCounter => p_laws_toCounter a) := pure_tells e17_ok (mkEnv_pur _ _) (md := Md) (by kernel_rfl) (A := c_laws_toCounter 22) (by kernel_rfl) (by
  rintro x b hb
  exact d_laws_toCounter u17_22 x hb)
noncomputable def e74 : Env := mkEnv [] []
theorem e74_ok : EnvOK Try.prog e74 := mkEnv_ok (by
  intro p hp
  cases hp) (by intro p hp; cases hp)
theorem o74 : PureOK Try.prog 74 true (FA fun a : TVec => p_spec_VecOK a) := pure_tells e74_ok (mkEnv_pur _ _) (md := Md) (by kernel_rfl) (A := c_spec_VecOK) (by kernel_rfl) (by
  rintro x b hb
  exact d_spec_VecOK x hb)
noncomputable def e71 : Env := mkEnv [(74, true, FA fun a : TVec => p_spec_VecOK a)] []
theorem e71_ok : EnvOK Try.prog e71 := mkEnv_ok (by
  intro p hp
  simp only [List.mem_cons, List.not_mem_nil, or_false] at hp
  subst hp
  exact o74) (by intro p hp; cases hp)
theorem u71_74 : e71 (2 * 74) = pureFn true (FA fun a : TVec => p_spec_VecOK a) := by
  unfold e71
  exact mkEnv_at (by rfl)
theorem o71 : PureOK Try.prog 71 true (FA fun a : TCounter => p_spec_l03CounterOK a) := pure_tells e71_ok (mkEnv_pur _ _) (md := Md) (by kernel_rfl) (A := c_spec_l03CounterOK 74) (by kernel_rfl) (by
  rintro x b hb
  exact d_spec_l03CounterOK u71_74 x hb)
noncomputable def e16 : Env := mkEnv [(71, true, FA fun a : TCounter => p_spec_l03CounterOK a)] []
theorem e16_ok : EnvOK Try.prog e16 := mkEnv_ok (by
  intro p hp
  simp only [List.mem_cons, List.not_mem_nil, or_false] at hp
  subst hp
  exact o71) (by intro p hp; cases hp)
theorem u16_71 : e16 (2 * 71) = pureFn true (FA fun a : TCounter => p_spec_l03CounterOK a) := by
  unfold e16
  exact mkEnv_at (by rfl)
theorem o16 : PureOK Try.prog 16 true (FA fun a : TCounter => p_spec_CounterValue a) := pure_tells e16_ok (mkEnv_pur _ _) (md := Md) (by kernel_rfl) (A := c_spec_CounterValue 71) (by kernel_rfl) (by
  rintro x b hb
  exact d_spec_CounterValue u16_71 x hb)
noncomputable def e76 : Env := mkEnv [] []
theorem e76_ok : EnvOK Try.prog e76 := mkEnv_ok (by
  intro p hp
  cases hp) (by intro p hp; cases hp)
theorem o76 : PureOK Try.prog 76 true (FA fun a : TVec => p_impl_VecOK a) := pure_tells e76_ok (mkEnv_pur _ _) (md := Md) (by kernel_rfl) (A := c_impl_VecOK) (by kernel_rfl) (by
  rintro x b hb
  exact d_impl_VecOK x hb)
noncomputable def e72 : Env := mkEnv [(76, true, FA fun a : TVec => p_impl_VecOK a)] []
theorem e72_ok : EnvOK Try.prog e72 := mkEnv_ok (by
  intro p hp
  simp only [List.mem_cons, List.not_mem_nil, or_false] at hp
  subst hp
  exact o76) (by intro p hp; cases hp)
theorem u72_76 : e72 (2 * 76) = pureFn true (FA fun a : TVec => p_impl_VecOK a) := by
  unfold e72
  exact mkEnv_at (by rfl)
theorem o72 : PureOK Try.prog 72 true (FA fun a : TCounter => p_impl_counterOK a) := pure_tells e72_ok (mkEnv_pur _ _) (md := Md) (by kernel_rfl) (A := c_impl_counterOK 76) (by kernel_rfl) (by
  rintro x b hb
  exact d_impl_counterOK u72_76 x hb)
noncomputable def e18 : Env := mkEnv [(72, true, FA fun a : TCounter => p_impl_counterOK a)] []
theorem e18_ok : EnvOK Try.prog e18 := mkEnv_ok (by
  intro p hp
  simp only [List.mem_cons, List.not_mem_nil, or_false] at hp
  subst hp
  exact o72) (by intro p hp; cases hp)
theorem u18_72 : e18 (2 * 72) = pureFn true (FA fun a : TCounter => p_impl_counterOK a) := by
  unfold e18
  exact mkEnv_at (by rfl)
theorem o18 : PureOK Try.prog 18 true (FA fun a : TCounter => p_impl_CounterValue a) := pure_tells e18_ok (mkEnv_pur _ _) (md := Md) (by kernel_rfl) (A := c_impl_CounterValue 72) (by kernel_rfl) (by
  rintro x b hb
  exact d_impl_CounterValue u18_72 x hb)
noncomputable def e31 : Env := mkEnv [] []
theorem e31_ok : EnvOK Try.prog e31 := mkEnv_ok (by
  intro p hp
  cases hp) (by intro p hp; cases hp)
theorem o31 : PureOK Try.prog 31 true (FA fun a : List Int × List Int => p_laws_eqIntS a.1 a.2) := pure_tells e31_ok (mkEnv_pur _ _) (md := Md) (by kernel_rfl) (A := c_laws_eqIntS) (by kernel_rfl) (by
  rintro ⟨x, y⟩ b hb
  exact d_laws_eqIntS x y hb)
noncomputable def e24 : Env := mkEnv [(31, true, FA fun a : List Int × List Int => p_laws_eqIntS a.1 a.2)] []
theorem e24_ok : EnvOK Try.prog e24 := mkEnv_ok (by
  intro p hp
  simp only [List.mem_cons, List.not_mem_nil, or_false] at hp
  subst hp
  exact o31) (by intro p hp; cases hp)
theorem u24_31 : e24 (2 * 31) = pureFn true (FA fun a : List Int × List Int => p_laws_eqIntS a.1 a.2) := by
  unfold e24
  exact mkEnv_at (by rfl)
theorem o24 : PureOK Try.prog 24 true (FA fun a : TVec × TVec => p_laws_eqVector a.1 a.2) := pure_tells e24_ok (mkEnv_pur _ _) (md := Md) (by kernel_rfl) (A := c_laws_eqVector 31) (by kernel_rfl) (by
  rintro ⟨x, y⟩ b hb
  exact d_laws_eqVector u24_31 x y hb)
noncomputable def e19 : Env := mkEnv [(24, true, FA fun a : TVec × TVec => p_laws_eqVector a.1 a.2)] []
theorem e19_ok : EnvOK Try.prog e19 := mkEnv_ok (by
  intro p hp
  simp only [List.mem_cons, List.not_mem_nil, or_false] at hp
  subst hp
  exact o24) (by intro p hp; cases hp)
theorem u19_24 : e19 (2 * 24) = pureFn true (FA fun a : TVec × TVec => p_laws_eqVector a.1 a.2) := by
  unfold e19
  exact mkEnv_at (by rfl)
theorem o19 : PureOK Try.prog 19 true (FA fun a : TCounter × TCounter => p_laws_eqCounter a.1 a.2) := pure_tells e19_ok (mkEnv_pur _ _) (md := Md) (by kernel_rfl) (A := c_laws_eqCounter 24) (by kernel_rfl) (by
  rintro ⟨x, y⟩ b hb
  exact d_laws_eqCounter u19_24 x y hb)
noncomputable def e3 : Env := mkEnv [(15, true, FA fun a : TCounter × Int => p_laws_szCounter a.1 a.2), (17, false, FA fun a : TCounter => p_laws_toCounter a), (16, true, FA fun a : TCounter => p_spec_CounterValue a), (18, true, FA fun a : TCounter => p_impl_CounterValue a), (19, true, FA fun a : TCounter × TCounter => p_laws_eqCounter a.1 a.2)] []
theorem e3_ok : EnvOK Try.prog e3 := mkEnv_ok (by
  intro p hp
  simp only [List.mem_cons, List.not_mem_nil, or_false] at hp
  rcases hp with rfl | rfl | rfl | rfl | rfl
  · exact o15
  · exact o17
  · exact o16
  · exact o18
  · exact o19) (by intro p hp; cases hp)
theorem u3_15 : e3 (2 * 15) = pureFn true (FA fun a : TCounter × Int => p_laws_szCounter a.1 a.2) := by
  unfold e3
  exact mkEnv_at (by rfl)
theorem u3_17 : e3 (2 * 17) = pureFn false (FA fun a : TCounter => p_laws_toCounter a) := by
  unfold e3
  exact mkEnv_at (by rfl)
theorem u3_16 : e3 (2 * 16) = pureFn true (FA fun a : TCounter => p_spec_CounterValue a) := by
  unfold e3
  exact mkEnv_at (by rfl)
theorem u3_18 : e3 (2 * 18) = pureFn true (FA fun a : TCounter => p_impl_CounterValue a) := by
  unfold e3
  exact mkEnv_at (by rfl)
theorem u3_19 : e3 (2 * 19) = pureFn true (FA fun a : TCounter × TCounter => p_laws_eqCounter a.1 a.2) := by
  unfold e3
  exact mkEnv_at (by rfl)
theorem law : LawOK Try.prog 3 [.st [.st [.sl 8 (.int .i64)], .st [.sl 8 (.int .i64)]]] := law_of_run e3_ok (mkEnv_pur _ _) (md := Md) (A := c_laws_FnExactCounterValue 15 17 16 18 19) (by kernel_rfl) (by
  intro xs hx
  cases hx with
  | cons h0 hx =>
  cases hx
  obtain ⟨a0, rfl, k0⟩ := fit_TCounter h0
  exact d_laws_FnExactCounterValue u3_15 u3_17 u3_16 u3_18 u3_19 a0 (plain_CounterValue a0 k0))
theorem own : ownKnob Try.prog.godebug = none := by kernel_rfl
theorem laidOut : laidOutB Try.prog = true := by kernel_rfl
set_option maxRecDepth 100000 in
theorem lifted (os : Os) (started : os.Started) (H : Type) (enc : TypeId × Value → H) :
    ReturnsInHanded {} Try.checked os 3 .any (Rows.fnExactCounterValueSpec.pre6 enc Try.prog Try.f3 Rows.fnExactCounterValueRow.domain false) (Rows.fnExactCounterValueSpec.post enc Try.prog Try.f3 false true false false) := by
  refine returnsInHanded_of_change_sized (C := Try.checked) own started (by kernel_rfl) Try.func3
    (ChangeSpec.witness6 (enc := enc) (C := Try.checked) false ⟨#[], #[.agg #[.slice none 0 0, .slice none 0 0]], []⟩ 8 (by kernel_rfl) (by kernel_rfl) (by kernel_rfl) (by kernel_rfl)) ?_
  intro W base args ds gs before hval hW hcnd hsz _
  refine law_contract (n := 8) (tb := 4) (shs := [.st [.st [.sl 8 (.int .i64)], .st [.sl 8 (.int .i64)]]]) laidOut rfl ?_ (by kernel_rfl) Try.underlying4 (by kernel_rfl) (by kernel_rfl) law W base args ds gs before hval hW hsz
  intro ds hds
  have h1 : ds.length = 1 := hds
  match ds, h1 with
  | [d0], _ => rfl
theorem over : Rows.fnExactCounterValueRow.holds Try.pinned (OpenSpec.ofChange Rows.fnExactCounterValueSpec) :=
  OpenClaim.holds_of_wide 3 Try.f3 rfl rfl rfl rfl rfl rfl rfl ⟨rfl, rfl, rfl, rfl, rfl⟩ rfl rfl rfl rfl rfl (by kernel_rfl) Try.func3 (by kernel_rfl)
    (of_decide_eq_true (by kernel_rfl)) (by unfold Func.isWrapper; first | (rw [if_pos (by decide +kernel)]; kernel_rfl) | (rw [if_neg (by decide +kernel)]; exact ⟨rfl, rfl⟩))
    (fun os started H enc _ => lifted os started H enc)
theorem proved : Rows.FnExactCounterValueSaid := over
#print axioms proved
end Go.Proofs.Ytjnkmdphjopboaa.RFnExactCounterValue
namespace Go.Proofs.Ytjnkmdphjopboaa
/-- The row, under a short name, for the claim. -/
theorem fnExactCounterValue_holds : Rows.FnExactCounterValueSaid := RFnExactCounterValue.proved
end Go.Proofs.Ytjnkmdphjopboaa
