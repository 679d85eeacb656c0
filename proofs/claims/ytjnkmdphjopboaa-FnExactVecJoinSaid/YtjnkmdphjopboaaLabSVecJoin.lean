/- The law FnExactVecJoin: its functions' contracts, its run, its row. No condition. -/
import Derived.Test.YtjnkmdphjopboaaRows
import Derived.Test.YtjnkmdphjopboaaLabPVecJoin
import Derived.WalkKit
import Derived.ProofKit
set_option linter.unusedVariables false
namespace Go.Proofs.Ytjnkmdphjopboaa.RFnExactVecJoin
open Go.AM
open Pic (enc dec dec_enc dec_sub)
def Md : Modes := fun f => if f == 17 then 1 else if f == 22 then 1 else if f == 23 then 1 else if f == 25 then 2 else if f == 28 then 1 else if f == 29 then 1 else if f == 32 then 2 else if f == 33 then 2 else if f == 36 then 1 else if f == 38 then 1 else if f == 39 then 2 else if f == 43 then 1 else if f == 44 then 1 else if f == 46 then 2 else if f == 49 then 1 else if f == 50 then 1 else if f == 52 then 2 else if f == 55 then 1 else if f == 57 then 1 else if f == 58 then 1 else if f == 60 then 1 else if f == 62 then 1 else if f == 66 then 1 else if f == 67 then 1 else if f == 69 then 2 else if f == 77 then 1 else if f == 80 then 2 else if f == 82 then 2 else if f == 84 then 2 else if f == 91 then 1 else if f == 93 then 1 else if f == 94 then 1 else if f == 95 then 2 else if f == 96 then 2 else if f == 98 then 1 else if f == 99 then 2 else if f == 100 then 2 else if f == 104 then 1 else if f == 106 then 1 else if f == 108 then 2 else if f == 119 then 2 else 0
noncomputable def e73 : Env := mkEnv [] []
theorem e73_ok : EnvOK Try.prog e73 := mkEnv_ok (by intro p hp; cases hp) (by intro p hp; cases hp)
theorem o73 : PureOK Try.prog 73 true (FA fun a : List Int × Int => p_laws_szIntS a.1 a.2) := pure_tells e73_ok (mkEnv_pur _ _) (md := Md) (by kernel_rfl) (A := c_laws_szIntS) (by kernel_rfl) (by
  rintro ⟨x, y⟩ b hb
  exact d_laws_szIntS x y hb)
noncomputable def e20 : Env := mkEnv [(73, true, FA fun a : List Int × Int => p_laws_szIntS a.1 a.2)] []
theorem e20_ok : EnvOK Try.prog e20 := mkEnv_ok (by
  intro p hp
  simp only [List.mem_cons, List.not_mem_nil, or_false] at hp
  subst hp
  exact o73) (by intro p hp; cases hp)
theorem u20_73 : e20 (2 * 73) = pureFn true (FA fun a : List Int × Int => p_laws_szIntS a.1 a.2) := by
  unfold e20
  exact mkEnv_at (by rfl)
theorem o20 : PureOK Try.prog 20 true (FA fun a : TVec × Int => p_laws_szVector a.1 a.2) := pure_tells e20_ok (mkEnv_pur _ _) (md := Md) (by kernel_rfl) (A := c_laws_szVector 73) (by kernel_rfl) (by
  rintro ⟨x, y⟩ b hb
  exact d_laws_szVector u20_73 x y hb)
noncomputable def e28 : Env := mkEnv [] []
theorem e28_ok : EnvOK Try.prog e28 := mkEnv_ok (by intro p hp; cases hp) (by intro p hp; cases hp)
theorem y28 : FunOK Try.prog 28 (ownFn Try.prog e28 (c_laws_toIntS)) := ownFn_ok e28_ok (mkEnv_pur _ _) (md := Md) (by kernel_rfl) (by kernel_rfl)
noncomputable def e22 : Env := mkEnv [] [(28, (ownFn Try.prog e28 (c_laws_toIntS)))]
theorem e22_ok : EnvOK Try.prog e22 := mkEnv_ok (by intro p hp; cases hp) (by
  intro p hp
  simp only [List.mem_cons, List.not_mem_nil, or_false] at hp
  subst hp
  exact y28)
theorem x22_28 : k_laws_toIntS (e22 (2 * 28 + 1)) := by
  unfold e22
  rw [mkEnv_own (g := (ownFn Try.prog e28 (c_laws_toIntS))) (by rfl)]
  exact ko_laws_toIntS
theorem o22 : PureOK Try.prog 22 true (FA fun a : TVec => p_laws_toVector a) := pure_tells e22_ok (mkEnv_pur _ _) (md := Md) (by kernel_rfl) (A := c_laws_toVector 28) (by kernel_rfl) (by
  rintro x b hb
  exact d_laws_toVector x22_28 x hb)
theorem y22 : FunOK Try.prog 22 (ownFn Try.prog e22 (c_laws_toVector 28)) := ownFn_ok e22_ok (mkEnv_pur _ _) (md := Md) (by kernel_rfl) (by kernel_rfl)
noncomputable def e74 : Env := mkEnv [] []
theorem e74_ok : EnvOK Try.prog e74 := mkEnv_ok (by intro p hp; cases hp) (by intro p hp; cases hp)
theorem o74 : PureOK Try.prog 74 true (FA fun a : TVec => p_spec_VecOK a) := pure_tells e74_ok (mkEnv_pur _ _) (md := Md) (by kernel_rfl) (A := c_spec_VecOK) (by kernel_rfl) (by
  rintro x b hb
  exact d_spec_VecOK x hb)
noncomputable def e75 : Env := mkEnv [] []
theorem e75_ok : EnvOK Try.prog e75 := mkEnv_ok (by intro p hp; cases hp) (by intro p hp; cases hp)
theorem o75 : PureOK Try.prog 75 true (FA fun a : TVec × TVec => p_spec_l02Join a.1 a.2) := pure_tells e75_ok (mkEnv_pur _ _) (md := Md) (by kernel_rfl) (A := c_spec_l02Join) (by kernel_rfl) (by
  rintro ⟨x, y⟩ b hb
  exact d_spec_l02Join x y hb)
noncomputable def e21 : Env := mkEnv [(74, true, FA fun a : TVec => p_spec_VecOK a), (75, true, FA fun a : TVec × TVec => p_spec_l02Join a.1 a.2)] []
theorem e21_ok : EnvOK Try.prog e21 := mkEnv_ok (by
  intro p hp
  simp only [List.mem_cons, List.not_mem_nil, or_false] at hp
  rcases hp with rfl | rfl
  · exact o74
  · exact o75) (by intro p hp; cases hp)
theorem u21_74 : e21 (2 * 74) = pureFn true (FA fun a : TVec => p_spec_VecOK a) := by
  unfold e21
  exact mkEnv_at (by rfl)
theorem u21_75 : e21 (2 * 75) = pureFn true (FA fun a : TVec × TVec => p_spec_l02Join a.1 a.2) := by
  unfold e21
  exact mkEnv_at (by rfl)
theorem o21 : PureOK Try.prog 21 false (FA fun a : TVec × TVec => p_spec_VecJoin a.1 a.2) := pure_tells e21_ok (mkEnv_pur _ _) (md := Md) (by kernel_rfl) (A := c_spec_VecJoin 74 75) (by kernel_rfl) (by
  rintro ⟨x, y⟩ b hb
  exact d_spec_VecJoin u21_74 u21_75 x y hb)
noncomputable def e76 : Env := mkEnv [] []
theorem e76_ok : EnvOK Try.prog e76 := mkEnv_ok (by intro p hp; cases hp) (by intro p hp; cases hp)
theorem o76 : PureOK Try.prog 76 true (FA fun a : TVec => p_impl_VecOK a) := pure_tells e76_ok (mkEnv_pur _ _) (md := Md) (by kernel_rfl) (A := c_impl_VecOK) (by kernel_rfl) (by
  rintro x b hb
  exact d_impl_VecOK x hb)
noncomputable def e77 : Env := mkEnv [] []
theorem e77_ok : EnvOK Try.prog e77 := mkEnv_ok (by intro p hp; cases hp) (by intro p hp; cases hp)
theorem y77 : FunOK Try.prog 77 (ownFn Try.prog e77 (c_impl_vecJoin)) := ownFn_ok e77_ok (mkEnv_pur _ _) (md := Md) (by kernel_rfl) (by kernel_rfl)
noncomputable def e23 : Env := mkEnv [(76, true, FA fun a : TVec => p_impl_VecOK a)] [(77, (ownFn Try.prog e77 (c_impl_vecJoin)))]
theorem e23_ok : EnvOK Try.prog e23 := mkEnv_ok (by
  intro p hp
  simp only [List.mem_cons, List.not_mem_nil, or_false] at hp
  subst hp
  exact o76) (by
  intro p hp
  simp only [List.mem_cons, List.not_mem_nil, or_false] at hp
  subst hp
  exact y77)
theorem u23_76 : e23 (2 * 76) = pureFn true (FA fun a : TVec => p_impl_VecOK a) := by
  unfold e23
  exact mkEnv_at (by rfl)
theorem x23_77 : k_impl_vecJoin (e23 (2 * 77 + 1)) := by
  unfold e23
  rw [mkEnv_own (g := (ownFn Try.prog e77 (c_impl_vecJoin))) (by rfl)]
  exact ko_impl_vecJoin
theorem o23 : PureOK Try.prog 23 true (FA fun a : TVec × TVec => p_impl_VecJoin a.1 a.2) := pure_tells e23_ok (mkEnv_pur _ _) (md := Md) (by kernel_rfl) (A := c_impl_VecJoin 76 77) (by kernel_rfl) (by
  rintro ⟨x, y⟩ b hb
  exact d_impl_VecJoin u23_76 x23_77 x y hb)
theorem y23 : FunOK Try.prog 23 (ownFn Try.prog e23 (c_impl_VecJoin 76 77)) := ownFn_ok e23_ok (mkEnv_pur _ _) (md := Md) (by kernel_rfl) (by kernel_rfl)
noncomputable def e31 : Env := mkEnv [] []
theorem e31_ok : EnvOK Try.prog e31 := mkEnv_ok (by intro p hp; cases hp) (by intro p hp; cases hp)
theorem o31 : PureOK Try.prog 31 true (FA fun a : List Int × List Int => p_laws_eqIntS a.1 a.2) := pure_tells e31_ok (mkEnv_pur _ _) (md := Md) (by kernel_rfl) (A := c_laws_eqIntS) (by kernel_rfl) (by
  rintro ⟨x, y⟩ b hb
  exact d_laws_eqIntS x y hb)
noncomputable def e24 : Env := mkEnv [(31, true, FA fun a : List Int × List Int => p_laws_eqIntS a.1 a.2)] []
theorem e24_ok : EnvOK Try.prog e24 := mkEnv_ok (by
  intro p hp
  simp only [List.mem_cons, List.not_mem_nil, or_false] at hp
  subst hp
  exact o31) (by intro p hp; cases hp)
theorem u24_31 : e24 (2 * 31) = pureFn true (FA fun a : List Int × List Int => p_laws_eqIntS a.1 a.2) := by
  unfold e24
  exact mkEnv_at (by rfl)
theorem o24 : PureOK Try.prog 24 true (FA fun a : TVec × TVec => p_laws_eqVector a.1 a.2) := pure_tells e24_ok (mkEnv_pur _ _) (md := Md) (by kernel_rfl) (A := c_laws_eqVector 31) (by kernel_rfl) (by
  rintro ⟨x, y⟩ b hb
  exact d_laws_eqVector u24_31 x y hb)
noncomputable def e32 : Env := mkEnv [] []
theorem e32_ok : EnvOK Try.prog e32 := mkEnv_ok (by intro p hp; cases hp) (by intro p hp; cases hp)
theorem y32 : FunOK Try.prog 32 (runIn Try.prog e32 (c_laws_markIntS)) := runIn_ok e32_ok (mkEnv_pur _ _) (md := Md) (by kernel_rfl) (by kernel_rfl)
noncomputable def e25 : Env := mkEnv [] [(32, (runIn Try.prog e32 (c_laws_markIntS)))]
theorem e25_ok : EnvOK Try.prog e25 := mkEnv_ok (by intro p hp; cases hp) (by
  intro p hp
  simp only [List.mem_cons, List.not_mem_nil, or_false] at hp
  subst hp
  exact y32)
theorem x25_32 : k_laws_markIntS (e25 (2 * 32 + 1)) := by
  unfold e25
  rw [mkEnv_own (g := (runIn Try.prog e32 (c_laws_markIntS))) (by rfl)]
  exact ko_laws_markIntS
theorem y25 : FunOK Try.prog 25 (runIn Try.prog e25 (c_laws_markVector 32)) := runIn_ok e25_ok (mkEnv_pur _ _) (md := Md) (by kernel_rfl) (by kernel_rfl)
noncomputable def e63 : Env := mkEnv [] []
theorem e63_ok : EnvOK Try.prog e63 := mkEnv_ok (by intro p hp; cases hp) (by intro p hp; cases hp)
theorem o63 : PureOK Try.prog 63 true (FA fun a : List Int × Int => p_laws_heldIntS a.1 a.2) := pure_tells e63_ok (mkEnv_pur _ _) (md := Md) (by kernel_rfl) (A := c_laws_heldIntS) (by kernel_rfl) (by
  rintro ⟨x, y⟩ b hb
  exact d_laws_heldIntS x y hb)
noncomputable def e26 : Env := mkEnv [(63, true, FA fun a : List Int × Int => p_laws_heldIntS a.1 a.2)] []
theorem e26_ok : EnvOK Try.prog e26 := mkEnv_ok (by
  intro p hp
  simp only [List.mem_cons, List.not_mem_nil, or_false] at hp
  subst hp
  exact o63) (by intro p hp; cases hp)
theorem u26_63 : e26 (2 * 63) = pureFn true (FA fun a : List Int × Int => p_laws_heldIntS a.1 a.2) := by
  unfold e26
  exact mkEnv_at (by rfl)
theorem o26 : PureOK Try.prog 26 true (FA fun a : TVec × Int => p_laws_heldVector a.1 a.2) := pure_tells e26_ok (mkEnv_pur _ _) (md := Md) (by kernel_rfl) (A := c_laws_heldVector 63) (by kernel_rfl) (by
  rintro ⟨x, y⟩ b hb
  exact d_laws_heldVector u26_63 x y hb)
noncomputable def e4 : Env := mkEnv [(20, true, FA fun a : TVec × Int => p_laws_szVector a.1 a.2), (22, true, FA fun a : TVec => p_laws_toVector a), (21, false, FA fun a : TVec × TVec => p_spec_VecJoin a.1 a.2), (24, true, FA fun a : TVec × TVec => p_laws_eqVector a.1 a.2), (26, true, FA fun a : TVec × Int => p_laws_heldVector a.1 a.2), (23, true, FA fun a : TVec × TVec => p_impl_VecJoin a.1 a.2)] [(22, (ownFn Try.prog e22 (c_laws_toVector 28))), (23, (ownFn Try.prog e23 (c_impl_VecJoin 76 77))), (25, (runIn Try.prog e25 (c_laws_markVector 32)))]
theorem e4_ok : EnvOK Try.prog e4 := mkEnv_ok (by
  intro p hp
  simp only [List.mem_cons, List.not_mem_nil, or_false] at hp
  rcases hp with rfl | rfl | rfl | rfl | rfl | rfl
  · exact o20
  · exact o22
  · exact o21
  · exact o24
  · exact o26
  · exact o23) (by
  intro p hp
  simp only [List.mem_cons, List.not_mem_nil, or_false] at hp
  rcases hp with rfl | rfl | rfl
  · exact y22
  · exact y23
  · exact y25)
theorem u4_20 : e4 (2 * 20) = pureFn true (FA fun a : TVec × Int => p_laws_szVector a.1 a.2) := by
  unfold e4
  exact mkEnv_at (by rfl)
theorem u4_22 : e4 (2 * 22) = pureFn true (FA fun a : TVec => p_laws_toVector a) := by
  unfold e4
  exact mkEnv_at (by rfl)
theorem u4_21 : e4 (2 * 21) = pureFn false (FA fun a : TVec × TVec => p_spec_VecJoin a.1 a.2) := by
  unfold e4
  exact mkEnv_at (by rfl)
theorem u4_24 : e4 (2 * 24) = pureFn true (FA fun a : TVec × TVec => p_laws_eqVector a.1 a.2) := by
  unfold e4
  exact mkEnv_at (by rfl)
theorem u4_26 : e4 (2 * 26) = pureFn true (FA fun a : TVec × Int => p_laws_heldVector a.1 a.2) := by
  unfold e4
  exact mkEnv_at (by rfl)
theorem u4_23 : e4 (2 * 23) = pureFn true (FA fun a : TVec × TVec => p_impl_VecJoin a.1 a.2) := by
  unfold e4
  exact mkEnv_at (by rfl)
theorem x4_22 : k_laws_toVector (e4 (2 * 22 + 1)) := by
  unfold e4
  rw [mkEnv_own (g := (ownFn Try.prog e22 (c_laws_toVector 28))) (by rfl)]
  exact ko_laws_toVector x22_28
theorem x4_23 : k_impl_VecJoin (e4 (2 * 23 + 1)) := by
  unfold e4
  rw [mkEnv_own (g := (ownFn Try.prog e23 (c_impl_VecJoin 76 77))) (by rfl)]
  exact ko_impl_VecJoin u23_76 x23_77
theorem x4_25 : k_laws_markVector (e4 (2 * 25 + 1)) := by
  unfold e4
  rw [mkEnv_own (g := (runIn Try.prog e25 (c_laws_markVector 32))) (by rfl)]
  exact ko_laws_markVector x25_32
theorem law : LawOK Try.prog 4 [.st [.sl 8 (.int .i64)], .st [.sl 8 (.int .i64)]] := law_of_run e4_ok (mkEnv_pur _ _) (md := Md) (A := c_laws_FnExactVecJoin 20 22 21 23 24 25 26) (by kernel_rfl) (by
  intro xs hx
  cases hx with
  | cons h0 hx =>
  cases hx with
  | cons h1 hx =>
  cases hx
  obtain ⟨a0, rfl, k0⟩ := fit_TVec h0
  obtain ⟨a1, rfl, k1⟩ := fit_TVec h1
  exact d_laws_FnExactVecJoin u4_20 u4_22 u4_21 u4_24 u4_26 u4_23 x4_22 x4_23 x4_25 a0 a1 (plain_VecJoin a0 a1 k0 k1))
theorem own : ownKnob Try.prog.godebug = none := by kernel_rfl
theorem laidOut : laidOutB Try.prog = true := by kernel_rfl
set_option maxRecDepth 100000 in
theorem lifted (os : Os) (started : os.Started) (H : Type) (enc : TypeId × Value → H) :
    ReturnsInHanded {} Try.checked os 4 .any (Rows.fnExactVecJoinSpec.pre6 enc Try.prog Try.f4 Rows.fnExactVecJoinRow.domain false) (Rows.fnExactVecJoinSpec.post enc Try.prog Try.f4 false true false false) := by
  refine returnsInHanded_of_change_sized (C := Try.checked) own started (by kernel_rfl) Try.func4
    (ChangeSpec.witness6 (enc := enc) (C := Try.checked) false ⟨#[], #[.agg #[.slice none 0 0], .agg #[.slice none 0 0]], []⟩ 8 (by kernel_rfl) (by kernel_rfl) (by kernel_rfl) (by kernel_rfl)) ?_
  intro W base args ds gs before hval hW hcnd hsz _
  refine law_contract (n := 8) (tb := 4) (shs := [.st [.sl 8 (.int .i64)], .st [.sl 8 (.int .i64)]]) laidOut rfl ?_ (by kernel_rfl) Try.underlying4 (by kernel_rfl) (by kernel_rfl) law W base args ds gs before hval hW hsz
  intro ds hds
  have h1 : ds.length = 2 := hds
  match ds, h1 with
  | [d0, d1], _ => rfl
theorem over : Rows.fnExactVecJoinRow.holds Try.pinned (OpenSpec.ofChange Rows.fnExactVecJoinSpec) :=
  OpenClaim.holds_of_wide 4 Try.f4 rfl rfl rfl rfl rfl rfl rfl ⟨rfl, rfl, rfl, rfl, rfl⟩ rfl rfl rfl rfl rfl (by kernel_rfl) Try.func4 (by kernel_rfl)
    (of_decide_eq_true (by kernel_rfl)) (by unfold Func.isWrapper; first | (rw [if_pos (by decide +kernel)]; kernel_rfl) | (rw [if_neg (by decide +kernel)]; exact ⟨rfl, rfl⟩))
    (fun os started H enc _ => lifted os started H enc)
theorem proved : Rows.FnExactVecJoinSaid := over
#print axioms proved
end Go.Proofs.Ytjnkmdphjopboaa.RFnExactVecJoin
namespace Go.Proofs.Ytjnkmdphjopboaa
/-- The row, under a short name, for the claim. -/
theorem fnExactVecJoin_holds : Rows.FnExactVecJoinSaid := RFnExactVecJoin.proved
end Go.Proofs.Ytjnkmdphjopboaa
