/- The law FnExactPutRuns: its functions' contracts, its run, its row. No condition. -/
import Derived.Test.YtjnkmdphjopboaaRows
import Derived.Test.YtjnkmdphjopboaaLabPPutRuns
import Derived.WalkKit
import Derived.ProofKit
set_option linter.unusedVariables false
namespace Go.Proofs.Ytjnkmdphjopboaa.RFnExactPutRuns
open Go.AM
open Pic (enc dec dec_enc dec_sub)
def Md : Modes := fun f => if f == 16 then 4 else if f == 17 then 1 else if f == 21 then 4 else if f == 22 then 1 else if f == 23 then 1 else if f == 25 then 2 else if f == 27 then 4 else if f == 28 then 1 else if f == 29 then 1 else if f == 32 then 2 else if f == 33 then 2 else if f == 35 then 4 else if f == 36 then 1 else if f == 37 then 4 else if f == 38 then 1 else if f == 39 then 2 else if f == 42 then 4 else if f == 43 then 1 else if f == 44 then 1 else if f == 46 then 2 else if f == 48 then 4 else if f == 49 then 1 else if f == 50 then 1 else if f == 52 then 2 else if f == 54 then 4 else if f == 55 then 1 else if f == 56 then 4 else if f == 57 then 1 else if f == 58 then 1 else if f == 59 then 4 else if f == 60 then 1 else if f == 61 then 4 else if f == 62 then 1 else if f == 65 then 4 else if f == 66 then 1 else if f == 67 then 1 else if f == 69 then 2 else if f == 74 then 4 else if f == 77 then 1 else if f == 79 then 1 else if f == 80 then 2 else if f == 81 then 1 else if f == 82 then 2 else if f == 83 then 1 else if f == 84 then 2 else if f == 91 then 1 else if f == 93 then 1 else if f == 94 then 1 else if f == 95 then 2 else if f == 96 then 2 else if f == 98 then 1 else if f == 99 then 2 else if f == 100 then 2 else if f == 104 then 1 else if f == 106 then 1 else if f == 108 then 2 else if f == 110 then 1 else if f == 119 then 2 else if f == 122 then 4 else if f == 123 then 4 else 0
def Ap : Nat → Bool := fun f => Md f == 1
def MdL : Modes := fun f => if Md f == 1 then 3 else Md f
def ApL : Nat → Bool := fun f => MdL f == 1
noncomputable def e28 : Env := mkEnv [] []
theorem e28_ok : EnvOK Try.prog e28 := mkEnv_ok (by intro p hp; cases hp) (by intro p hp; cases hp)
theorem w28_pur : ∀ c, opens Ap c = true → PurEnv e28 c := mkEnv_pur _ _ (by intro p hp; cases hp)
theorem o28 : PureOK Try.prog 28 true (FA fun a : List Int => p_laws_toIntS a) := pure_tells e28_ok w28_pur (md := Md) (by kernel_rfl) (A := c_laws_toIntS) (by kernel_rfl) (by
  rintro x b hb
  exact d_laws_toIntS x hb)
theorem y28 : FunOK Try.prog 28 (ownFn Try.prog e28 (c_laws_toIntS)) := ownFn_ok e28_ok w28_pur (md := Md) (by kernel_rfl) (by kernel_rfl)
noncomputable def e78 : Env := mkEnv [] []
theorem e78_ok : EnvOK Try.prog e78 := mkEnv_ok (by intro p hp; cases hp) (by intro p hp; cases hp)
theorem w78_pur : ∀ c, opens Ap c = true → PurEnv e78 c := mkEnv_pur _ _ (by intro p hp; cases hp)
theorem o78 : PureOK Try.prog 78 true (FA fun a : List Int => p_spec_l01RunsOK a) := pure_tells e78_ok w78_pur (md := Md) (by kernel_rfl) (A := c_spec_l01RunsOK) (by kernel_rfl) (by
  rintro x b hb
  exact d_spec_l01RunsOK x hb)
noncomputable def v110 (F : Fun) : Env := mkEnv [] [(110, F)]
theorem v110_ok {F : Fun} (hF : FunOK Try.prog 110 F) : EnvOK Try.prog (v110 F) := mkEnv_ok (by intro p hp; cases hp) (by
  intro p hp
  simp only [List.mem_cons, List.not_mem_nil, or_false] at hp
  subst hp
  exact hF)
theorem v110_pur {F : Fun} (hF : Appends F) : ∀ c, opens Ap c = true → PurEnv (v110 F) c := mkEnv_pur _ _ (by
  intro p hp
  simp only [List.mem_cons, List.not_mem_nil, or_false] at hp
  subst hp
  intro _; exact hF)
noncomputable def F110 : Nat → Fun
  | 0 => fun _ _ _ => none
  | n + 1 => ownFn Try.prog (v110 (F110 n)) (c_spec_l01Put 110)
theorem FA110 : ∀ n, Appends (F110 n)
  | 0 => by intro slot args h v h2 he; cases he
  | n + 1 => ownFn_app
theorem FO110 : ∀ n, FunOK Try.prog 110 (F110 n)
  | 0 => by intro slot args h v h2 he; cases he
  | n + 1 => ownFn_ok (v110_ok (FO110 n)) (v110_pur (FA110 n)) (md := Md) (by kernel_rfl) (by kernel_rfl)
theorem FK110 : ∀ n, kR_spec_l01Put (pN_spec_l01Put n) (F110 n)
  | 0 => by intro x0 b hb; cases hb
  | n + 1 => ko_spec_l01Put (show kR_spec_l01Put (pN_spec_l01Put n) (v110 (F110 n) (2 * 110 + 1)) from by unfold v110; rw [mkEnv_own (g := F110 n) (by rfl)]; exact FK110 n)
noncomputable def G110 : Fun := unionF F110 (fun args h p => ∀ x0 b, p_spec_l01Put x0 = some b → snapA 9 false h args = some (PicA.encA (x0)) → oo_spec_l01Put b h p.1 p.2)
theorem y110 : FunOK Try.prog 110 G110 := unionF_ok FO110
theorem GA110 : Appends G110 := unionF_app FA110
theorem GK110 : k_spec_l01Put G110 := by
  intro x0 b hb h args has
  obtain ⟨n, hn⟩ := fixP_some hb
  obtain ⟨p, h1, h2⟩ := FK110 n x0 b hn h args has
  obtain ⟨p, h3, h4⟩ := unionF_has (Q := fun args h p => ∀ x0 b, p_spec_l01Put x0 = some b → snapA 9 false h args = some (PicA.encA (x0)) → oo_spec_l01Put b h p.1 p.2) h1 (by
    intro y0 b' hb' has'
    rw [has] at has'
    have := encA_inj (Option.some.inj has')
    cases this
    rw [hb] at hb'
    cases hb'
    exact h2)
  exact ⟨p, h3, h4 x0 b hb has⟩
noncomputable def e111 : Env := mkEnv [] [(110, G110)]
theorem e111_ok : EnvOK Try.prog e111 := mkEnv_ok (by intro p hp; cases hp) (by
  intro p hp
  simp only [List.mem_cons, List.not_mem_nil, or_false] at hp
  subst hp
  exact y110)
theorem w111_pur : ∀ c, opens Ap c = true → PurEnv e111 c := mkEnv_pur _ _ (by
  intro p hp
  simp only [List.mem_cons, List.not_mem_nil, or_false] at hp
  subst hp
  intro _; exact GA110)
theorem x111_110 : k_spec_l01Put (e111 (2 * 110 + 1)) := by
  unfold e111
  rw [mkEnv_own (g := G110) (by rfl)]
  exact GK110
theorem o111 : PureOK Try.prog 111 true (FA fun a : Int => p_spec_l01Signed a) := pure_tells e111_ok w111_pur (md := Md) (by kernel_rfl) (A := c_spec_l01Signed 110) (by kernel_rfl) (by
  rintro x b hb
  exact d_spec_l01Signed x111_110 x hb)
noncomputable def e79 : Env := mkEnv [(111, true, FA fun a : Int => p_spec_l01Signed a)] [(110, G110)]
theorem e79_ok : EnvOK Try.prog e79 := mkEnv_ok (by
  intro p hp
  simp only [List.mem_cons, List.not_mem_nil, or_false] at hp
  subst hp
  exact o111) (by
  intro p hp
  simp only [List.mem_cons, List.not_mem_nil, or_false] at hp
  subst hp
  exact y110)
theorem w79_pur : ∀ c, opens Ap c = true → PurEnv e79 c := mkEnv_pur _ _ (by
  intro p hp
  simp only [List.mem_cons, List.not_mem_nil, or_false] at hp
  subst hp
  intro _; exact GA110)
theorem u79_111 : e79 (2 * 111) = pureFn true (FA fun a : Int => p_spec_l01Signed a) := by
  unfold e79
  exact mkEnv_at (by rfl)
theorem x79_110 : k_spec_l01Put (e79 (2 * 110 + 1)) := by
  unfold e79
  rw [mkEnv_own (g := G110) (by rfl)]
  exact GK110
theorem y79 : FunOK Try.prog 79 (ownFn Try.prog e79 (c_spec_l01PutRuns 110 111)) := ownFn_ok e79_ok w79_pur (md := Md) (by kernel_rfl) (by kernel_rfl)
noncomputable def e27 : Env := mkEnv [(78, true, FA fun a : List Int => p_spec_l01RunsOK a)] [(79, (ownFn Try.prog e79 (c_spec_l01PutRuns 110 111)))]
theorem e27_ok : EnvOK Try.prog e27 := mkEnv_ok (by
  intro p hp
  simp only [List.mem_cons, List.not_mem_nil, or_false] at hp
  subst hp
  exact o78) (by
  intro p hp
  simp only [List.mem_cons, List.not_mem_nil, or_false] at hp
  subst hp
  exact y79)
theorem w27_pur : ∀ c, opens Ap c = true → PurEnv e27 c := mkEnv_pur _ _ (by
  intro p hp
  simp only [List.mem_cons, List.not_mem_nil, or_false] at hp
  subst hp
  intro _; exact ownFn_app)
theorem u27_78 : e27 (2 * 78) = pureFn true (FA fun a : List Int => p_spec_l01RunsOK a) := by
  unfold e27
  exact mkEnv_at (by rfl)
theorem x27_79 : k_spec_l01PutRuns (e27 (2 * 79 + 1)) := by
  unfold e27
  rw [mkEnv_own (g := (ownFn Try.prog e79 (c_spec_l01PutRuns 110 111))) (by rfl)]
  exact ko_spec_l01PutRuns u79_111 x79_110
theorem o27 : PureOK Try.prog 27 true (FA fun a : List Int => p_spec_PutRuns a) := pure_tells e27_ok w27_pur (md := Md) (by kernel_rfl) (A := c_spec_PutRuns 78 79) (by kernel_rfl) (by
  rintro x b hb
  exact d_spec_PutRuns u27_78 x27_79 x hb)
noncomputable def e82 : Env := mkEnv [] []
theorem e82_ok : EnvOK Try.prog e82 := mkEnv_ok (by intro p hp; cases hp) (by intro p hp; cases hp)
theorem w82_pur : ∀ c, opens Ap c = true → PurEnv e82 c := mkEnv_pur _ _ (by intro p hp; cases hp)
theorem y82 : FunOK Try.prog 82 (runIn Try.prog e82 (c_impl_appendInt)) := runIn_ok e82_ok w82_pur (md := Md) (by kernel_rfl) (by kernel_rfl)
noncomputable def e112 : Env := mkEnv [] []
theorem e112_ok : EnvOK Try.prog e112 := mkEnv_ok (by intro p hp; cases hp) (by intro p hp; cases hp)
theorem w112_pur : ∀ c, opens Ap c = true → PurEnv e112 c := mkEnv_pur _ _ (by intro p hp; cases hp)
theorem o112 : PureOK Try.prog 112 true (FA fun a : List Int × Int => p_impl_runLen a.1 a.2) := pure_tells e112_ok w112_pur (md := Md) (by kernel_rfl) (A := c_impl_runLen) (by kernel_rfl) (by
  rintro ⟨x, y⟩ b hb
  exact d_impl_runLen x y hb)
noncomputable def e113 : Env := mkEnv [] []
theorem e113_ok : EnvOK Try.prog e113 := mkEnv_ok (by intro p hp; cases hp) (by intro p hp; cases hp)
theorem w113_pur : ∀ c, opens Ap c = true → PurEnv e113 c := mkEnv_pur _ _ (by intro p hp; cases hp)
theorem o113 : PureOK Try.prog 113 true (FA fun a : Int => p_impl_zig a) := pure_tells e113_ok w113_pur (md := Md) (by kernel_rfl) (A := c_impl_zig) (by kernel_rfl) (by
  rintro x b hb
  exact d_impl_zig x hb)
noncomputable def e80 : Env := mkEnv [(112, true, FA fun a : List Int × Int => p_impl_runLen a.1 a.2), (113, true, FA fun a : Int => p_impl_zig a)] [(82, (runIn Try.prog e82 (c_impl_appendInt)))]
theorem e80_ok : EnvOK Try.prog e80 := mkEnv_ok (by
  intro p hp
  simp only [List.mem_cons, List.not_mem_nil, or_false] at hp
  rcases hp with rfl | rfl
  · exact o112
  · exact o113) (by
  intro p hp
  simp only [List.mem_cons, List.not_mem_nil, or_false] at hp
  subst hp
  exact y82)
theorem w80_pur : ∀ c, opens Ap c = true → PurEnv e80 c := mkEnv_pur _ _ (by
  intro p hp
  simp only [List.mem_cons, List.not_mem_nil, or_false] at hp
  subst hp
  intro h; exact absurd h (by rw [show Ap 82 = false from rfl]; exact Bool.false_ne_true))
theorem u80_112 : e80 (2 * 112) = pureFn true (FA fun a : List Int × Int => p_impl_runLen a.1 a.2) := by
  unfold e80
  exact mkEnv_at (by rfl)
theorem u80_113 : e80 (2 * 113) = pureFn true (FA fun a : Int => p_impl_zig a) := by
  unfold e80
  exact mkEnv_at (by rfl)
theorem x80_82 : k_impl_appendInt (e80 (2 * 82 + 1)) := by
  unfold e80
  rw [mkEnv_own (g := (runIn Try.prog e82 (c_impl_appendInt))) (by rfl)]
  exact ko_impl_appendInt
theorem y80 : FunOK Try.prog 80 (runIn Try.prog e80 (c_impl_appendRuns 82 112 113)) := runIn_ok e80_ok w80_pur (md := Md) (by kernel_rfl) (by kernel_rfl)
noncomputable def e29 : Env := mkEnv [] [(80, (runIn Try.prog e80 (c_impl_appendRuns 82 112 113)))]
theorem e29_ok : EnvOK Try.prog e29 := mkEnv_ok (by intro p hp; cases hp) (by
  intro p hp
  simp only [List.mem_cons, List.not_mem_nil, or_false] at hp
  subst hp
  exact y80)
theorem w29_pur : ∀ c, opens Ap c = true → PurEnv e29 c := mkEnv_pur _ _ (by
  intro p hp
  simp only [List.mem_cons, List.not_mem_nil, or_false] at hp
  subst hp
  intro h; exact absurd h (by rw [show Ap 80 = false from rfl]; exact Bool.false_ne_true))
theorem x29_80 : k_impl_appendRuns (e29 (2 * 80 + 1)) := by
  unfold e29
  rw [mkEnv_own (g := (runIn Try.prog e80 (c_impl_appendRuns 82 112 113))) (by rfl)]
  exact ko_impl_appendRuns u80_112 u80_113 x80_82
theorem y29 : FunOK Try.prog 29 (ownFn Try.prog e29 (c_impl_PutRuns 80)) := ownFn_ok e29_ok w29_pur (md := Md) (by kernel_rfl) (by kernel_rfl)
noncomputable def e30 : Env := mkEnv [] []
theorem e30_ok : EnvOK Try.prog e30 := mkEnv_ok (by intro p hp; cases hp) (by intro p hp; cases hp)
theorem w30_pur : ∀ c, opens Ap c = true → PurEnv e30 c := mkEnv_pur _ _ (by intro p hp; cases hp)
theorem o30 : PureOK Try.prog 30 true (FA fun a : List U8 × List U8 => p_laws_eqByteS a.1 a.2) := pure_tells e30_ok w30_pur (md := Md) (by kernel_rfl) (A := c_laws_eqByteS) (by kernel_rfl) (by
  rintro ⟨x, y⟩ b hb
  exact d_laws_eqByteS x y hb)
noncomputable def e31 : Env := mkEnv [] []
theorem e31_ok : EnvOK Try.prog e31 := mkEnv_ok (by intro p hp; cases hp) (by intro p hp; cases hp)
theorem w31_pur : ∀ c, opens Ap c = true → PurEnv e31 c := mkEnv_pur _ _ (by intro p hp; cases hp)
theorem o31 : PureOK Try.prog 31 true (FA fun a : List Int × List Int => p_laws_eqIntS a.1 a.2) := pure_tells e31_ok w31_pur (md := Md) (by kernel_rfl) (A := c_laws_eqIntS) (by kernel_rfl) (by
  rintro ⟨x, y⟩ b hb
  exact d_laws_eqIntS x y hb)
noncomputable def e32 : Env := mkEnv [] []
theorem e32_ok : EnvOK Try.prog e32 := mkEnv_ok (by intro p hp; cases hp) (by intro p hp; cases hp)
theorem w32_pur : ∀ c, opens Ap c = true → PurEnv e32 c := mkEnv_pur _ _ (by intro p hp; cases hp)
theorem y32 : FunOK Try.prog 32 (runIn Try.prog e32 (c_laws_markIntS)) := runIn_ok e32_ok w32_pur (md := Md) (by kernel_rfl) (by kernel_rfl)
noncomputable def e33 : Env := mkEnv [] []
theorem e33_ok : EnvOK Try.prog e33 := mkEnv_ok (by intro p hp; cases hp) (by intro p hp; cases hp)
theorem w33_pur : ∀ c, opens Ap c = true → PurEnv e33 c := mkEnv_pur _ _ (by intro p hp; cases hp)
theorem y33 : FunOK Try.prog 33 (runIn Try.prog e33 (c_laws_markByteS)) := runIn_ok e33_ok w33_pur (md := Md) (by kernel_rfl) (by kernel_rfl)
noncomputable def e34 : Env := mkEnv [] []
theorem e34_ok : EnvOK Try.prog e34 := mkEnv_ok (by intro p hp; cases hp) (by intro p hp; cases hp)
theorem w34_pur : ∀ c, opens Ap c = true → PurEnv e34 c := mkEnv_pur _ _ (by intro p hp; cases hp)
theorem o34 : PureOK Try.prog 34 true (FA fun a : List U8 × Int => p_laws_heldByteS a.1 a.2) := pure_tells e34_ok w34_pur (md := Md) (by kernel_rfl) (A := c_laws_heldByteS) (by kernel_rfl) (by
  rintro ⟨x, y⟩ b hb
  exact d_laws_heldByteS x y hb)
noncomputable def e5 : Env := mkEnv [(28, true, FA fun a : List Int => p_laws_toIntS a), (27, true, FA fun a : List Int => p_spec_PutRuns a), (30, true, FA fun a : List U8 × List U8 => p_laws_eqByteS a.1 a.2), (31, true, FA fun a : List Int × List Int => p_laws_eqIntS a.1 a.2), (34, true, FA fun a : List U8 × Int => p_laws_heldByteS a.1 a.2)] [(28, (ownFn Try.prog e28 (c_laws_toIntS))), (29, (ownFn Try.prog e29 (c_impl_PutRuns 80))), (32, (runIn Try.prog e32 (c_laws_markIntS))), (33, (runIn Try.prog e33 (c_laws_markByteS)))]
theorem e5_ok : EnvOK Try.prog e5 := mkEnv_ok (by
  intro p hp
  simp only [List.mem_cons, List.not_mem_nil, or_false] at hp
  rcases hp with rfl | rfl | rfl | rfl | rfl
  · exact o28
  · exact o27
  · exact o30
  · exact o31
  · exact o34) (by
  intro p hp
  simp only [List.mem_cons, List.not_mem_nil, or_false] at hp
  rcases hp with rfl | rfl | rfl | rfl
  · exact y28
  · exact y29
  · exact y32
  · exact y33)
theorem w5_pur : ∀ c, opens ApL c = true → PurEnv e5 c := mkEnv_pur _ _ (by
  intro p hp
  simp only [List.mem_cons, List.not_mem_nil, or_false] at hp
  rcases hp with rfl | rfl | rfl | rfl
  · intro h; exact absurd h (by rw [show ApL 28 = false from rfl]; exact Bool.false_ne_true)
  · intro h; exact absurd h (by rw [show ApL 29 = false from rfl]; exact Bool.false_ne_true)
  · intro h; exact absurd h (by rw [show ApL 32 = false from rfl]; exact Bool.false_ne_true)
  · intro h; exact absurd h (by rw [show ApL 33 = false from rfl]; exact Bool.false_ne_true))
theorem u5_28 : e5 (2 * 28) = pureFn true (FA fun a : List Int => p_laws_toIntS a) := by
  unfold e5
  exact mkEnv_at (by rfl)
theorem u5_27 : e5 (2 * 27) = pureFn true (FA fun a : List Int => p_spec_PutRuns a) := by
  unfold e5
  exact mkEnv_at (by rfl)
theorem u5_30 : e5 (2 * 30) = pureFn true (FA fun a : List U8 × List U8 => p_laws_eqByteS a.1 a.2) := by
  unfold e5
  exact mkEnv_at (by rfl)
theorem u5_31 : e5 (2 * 31) = pureFn true (FA fun a : List Int × List Int => p_laws_eqIntS a.1 a.2) := by
  unfold e5
  exact mkEnv_at (by rfl)
theorem u5_34 : e5 (2 * 34) = pureFn true (FA fun a : List U8 × Int => p_laws_heldByteS a.1 a.2) := by
  unfold e5
  exact mkEnv_at (by rfl)
theorem x5_28 : k_laws_toIntS (e5 (2 * 28 + 1)) := by
  unfold e5
  rw [mkEnv_own (g := (ownFn Try.prog e28 (c_laws_toIntS))) (by rfl)]
  exact ko_laws_toIntS
theorem x5_29 : k_impl_PutRuns (e5 (2 * 29 + 1)) := by
  unfold e5
  rw [mkEnv_own (g := (ownFn Try.prog e29 (c_impl_PutRuns 80))) (by rfl)]
  exact ko_impl_PutRuns x29_80
theorem x5_32 : k_laws_markIntS (e5 (2 * 32 + 1)) := by
  unfold e5
  rw [mkEnv_own (g := (runIn Try.prog e32 (c_laws_markIntS))) (by rfl)]
  exact ko_laws_markIntS
theorem x5_33 : k_laws_markByteS (e5 (2 * 33 + 1)) := by
  unfold e5
  rw [mkEnv_own (g := (runIn Try.prog e33 (c_laws_markByteS))) (by rfl)]
  exact ko_laws_markByteS
theorem law : LawOK Try.prog 5 [.sl 8 (.int .i64)] := law_of_run e5_ok w5_pur (md := MdL) (A := c_laws_FnExactPutRuns 28 27 29 30 31 32 33 34) (by kernel_rfl) (by
  intro xs hx
  cases hx with
  | cons h0 hx =>
  cases hx
  obtain ⟨a0, rfl, k0⟩ := fit_sl (α := Int) rfl (fun x hx => fit_int hx) h0
  exact d_laws_FnExactPutRuns u5_28 u5_27 u5_30 u5_31 u5_34 x5_28 x5_29 x5_32 x5_33 a0 (plain_PutRuns a0 k0))
theorem own : ownKnob Try.prog.godebug = none := by kernel_rfl
theorem laidOut : laidOutB Try.prog = true := by kernel_rfl
set_option maxRecDepth 100000 in
theorem lifted (os : Os) (started : os.Started) (H : Type) (enc : TypeId × Value → H) :
    ReturnsInHanded {} Try.checked os 5 .any (Rows.fnExactPutRunsSpec.pre6 enc Try.prog Try.f5 Rows.fnExactPutRunsRow.domain false) (Rows.fnExactPutRunsSpec.post enc Try.prog Try.f5 false true false false) := by
  refine returnsInHanded_of_change_sized (C := Try.checked) own started (by kernel_rfl) Try.func5
    (ChangeSpec.witness6 (enc := enc) (C := Try.checked) false ⟨#[], #[.slice none 0 0], []⟩ 8 (by kernel_rfl) (by kernel_rfl) (by kernel_rfl) (by kernel_rfl)) ?_
  intro W base args ds gs before hval hW hcnd hsz _
  refine law_contract (n := 8) (tb := 4) (shs := [.sl 8 (.int .i64)]) laidOut rfl ?_ (by kernel_rfl) Try.underlying4 (by kernel_rfl) (by kernel_rfl) law W base args ds gs before hval hW hsz
  intro ds hds
  have h1 : ds.length = 1 := hds
  match ds, h1 with
  | [d0], _ => rfl
theorem over : Rows.fnExactPutRunsRow.holds Try.pinned (OpenSpec.ofChange Rows.fnExactPutRunsSpec) :=
  OpenClaim.holds_of_wide 5 Try.f5 rfl rfl rfl rfl rfl rfl rfl ⟨rfl, rfl, rfl, rfl, rfl⟩ rfl rfl rfl rfl rfl (by kernel_rfl) Try.func5 (by kernel_rfl)
    (of_decide_eq_true (by kernel_rfl)) (by unfold Func.isWrapper; first | (rw [if_pos (by decide +kernel)]; kernel_rfl) | (rw [if_neg (by decide +kernel)]; exact ⟨rfl, rfl⟩))
    (fun os started H enc _ => lifted os started H enc)
theorem proved : Rows.FnExactPutRunsSaid := over
#print axioms proved
end Go.Proofs.Ytjnkmdphjopboaa.RFnExactPutRuns
namespace Go.Proofs.Ytjnkmdphjopboaa
/-- The row, under a short name, for the claim. -/
theorem fnExactPutRuns_holds : Rows.FnExactPutRunsSaid := RFnExactPutRuns.proved
end Go.Proofs.Ytjnkmdphjopboaa
