/- The law FnExactVecBytes: its functions' contracts, its run, its row. No condition. -/
import Derived.Test.YtjnkmdphjopboaaRows
import Derived.Test.YtjnkmdphjopboaaLabPVecBytes
import Derived.WalkKit
import Derived.ProofKit
set_option linter.unusedVariables false
namespace Go.Proofs.Ytjnkmdphjopboaa.RFnExactVecBytes
open Go.AM
open Pic (enc dec dec_enc dec_sub)
def Md : Modes := fun f => if f == 16 then 4 else if f == 17 then 1 else if f == 21 then 4 else if f == 22 then 1 else if f == 23 then 1 else if f == 25 then 2 else if f == 27 then 4 else if f == 28 then 1 else if f == 29 then 1 else if f == 32 then 2 else if f == 33 then 2 else if f == 35 then 4 else if f == 36 then 1 else if f == 37 then 4 else if f == 38 then 1 else if f == 39 then 2 else if f == 42 then 4 else if f == 43 then 1 else if f == 44 then 1 else if f == 46 then 2 else if f == 48 then 4 else if f == 49 then 1 else if f == 50 then 1 else if f == 52 then 2 else if f == 54 then 4 else if f == 55 then 1 else if f == 56 then 4 else if f == 57 then 1 else if f == 58 then 1 else if f == 59 then 4 else if f == 60 then 1 else if f == 61 then 4 else if f == 62 then 1 else if f == 65 then 4 else if f == 66 then 1 else if f == 67 then 1 else if f == 69 then 2 else if f == 74 then 4 else if f == 77 then 1 else if f == 79 then 1 else if f == 80 then 2 else if f == 81 then 1 else if f == 82 then 2 else if f == 83 then 1 else if f == 84 then 2 else if f == 91 then 1 else if f == 93 then 1 else if f == 94 then 1 else if f == 95 then 2 else if f == 96 then 2 else if f == 98 then 1 else if f == 99 then 2 else if f == 100 then 2 else if f == 104 then 1 else if f == 106 then 1 else if f == 108 then 2 else if f == 110 then 1 else if f == 119 then 2 else if f == 122 then 4 else if f == 123 then 4 else 0
def Ap : Nat → Bool := fun f => Md f == 1
def MdL : Modes := fun f => if Md f == 1 then 3 else Md f
def ApL : Nat → Bool := fun f => MdL f == 1
noncomputable def e73 : Env := mkEnv [] []
theorem e73_ok : EnvOK Try.prog e73 := mkEnv_ok (by intro p hp; cases hp) (by intro p hp; cases hp)
theorem w73_pur : ∀ c, opens Ap c = true → PurEnv e73 c := mkEnv_pur _ _ (by intro p hp; cases hp)
theorem o73 : PureOK Try.prog 73 true (FA fun a : List Int × Int => p_laws_szIntS a.1 a.2) := pure_tells e73_ok w73_pur (md := Md) (by kernel_rfl) (A := c_laws_szIntS) (by kernel_rfl) (by
  rintro ⟨x, y⟩ b hb
  exact d_laws_szIntS x y hb)
noncomputable def e20 : Env := mkEnv [(73, true, FA fun a : List Int × Int => p_laws_szIntS a.1 a.2)] []
theorem e20_ok : EnvOK Try.prog e20 := mkEnv_ok (by
  intro p hp
  simp only [List.mem_cons, List.not_mem_nil, or_false] at hp
  subst hp
  exact o73) (by intro p hp; cases hp)
theorem w20_pur : ∀ c, opens Ap c = true → PurEnv e20 c := mkEnv_pur _ _ (by intro p hp; cases hp)
theorem u20_73 : e20 (2 * 73) = pureFn true (FA fun a : List Int × Int => p_laws_szIntS a.1 a.2) := by
  unfold e20
  exact mkEnv_at (by rfl)
theorem o20 : PureOK Try.prog 20 true (FA fun a : TVec × Int => p_laws_szVector a.1 a.2) := pure_tells e20_ok w20_pur (md := Md) (by kernel_rfl) (A := c_laws_szVector 73) (by kernel_rfl) (by
  rintro ⟨x, y⟩ b hb
  exact d_laws_szVector u20_73 x y hb)
noncomputable def e28 : Env := mkEnv [] []
theorem e28_ok : EnvOK Try.prog e28 := mkEnv_ok (by intro p hp; cases hp) (by intro p hp; cases hp)
theorem w28_pur : ∀ c, opens Ap c = true → PurEnv e28 c := mkEnv_pur _ _ (by intro p hp; cases hp)
theorem y28 : FunOK Try.prog 28 (ownFn Try.prog e28 (c_laws_toIntS)) := ownFn_ok e28_ok w28_pur (md := Md) (by kernel_rfl) (by kernel_rfl)
noncomputable def e22 : Env := mkEnv [] [(28, (ownFn Try.prog e28 (c_laws_toIntS)))]
theorem e22_ok : EnvOK Try.prog e22 := mkEnv_ok (by intro p hp; cases hp) (by
  intro p hp
  simp only [List.mem_cons, List.not_mem_nil, or_false] at hp
  subst hp
  exact y28)
theorem w22_pur : ∀ c, opens Ap c = true → PurEnv e22 c := mkEnv_pur _ _ (by
  intro p hp
  simp only [List.mem_cons, List.not_mem_nil, or_false] at hp
  subst hp
  intro _; exact ownFn_app)
theorem x22_28 : k_laws_toIntS (e22 (2 * 28 + 1)) := by
  unfold e22
  rw [mkEnv_own (g := (ownFn Try.prog e28 (c_laws_toIntS))) (by rfl)]
  exact ko_laws_toIntS
theorem o22 : PureOK Try.prog 22 true (FA fun a : TVec => p_laws_toVector a) := pure_tells e22_ok w22_pur (md := Md) (by kernel_rfl) (A := c_laws_toVector 28) (by kernel_rfl) (by
  rintro x b hb
  exact d_laws_toVector x22_28 x hb)
theorem y22 : FunOK Try.prog 22 (ownFn Try.prog e22 (c_laws_toVector 28)) := ownFn_ok e22_ok w22_pur (md := Md) (by kernel_rfl) (by kernel_rfl)
noncomputable def e74 : Env := mkEnv [] []
theorem e74_ok : EnvOK Try.prog e74 := mkEnv_ok (by intro p hp; cases hp) (by intro p hp; cases hp)
theorem w74_pur : ∀ c, opens Ap c = true → PurEnv e74 c := mkEnv_pur _ _ (by intro p hp; cases hp)
theorem o74 : PureOK Try.prog 74 true (FA fun a : TVec => p_spec_VecOK a) := pure_tells e74_ok w74_pur (md := Md) (by kernel_rfl) (A := c_spec_VecOK) (by kernel_rfl) (by
  rintro x b hb
  exact d_spec_VecOK x hb)
noncomputable def v110 (F : Fun) : Env := mkEnv [] [(110, F)]
theorem v110_ok {F : Fun} (hF : FunOK Try.prog 110 F) : EnvOK Try.prog (v110 F) := mkEnv_ok (by intro p hp; cases hp) (by
  intro p hp
  simp only [List.mem_cons, List.not_mem_nil, or_false] at hp
  subst hp
  exact hF)
theorem v110_pur {F : Fun} (hF : Appends F) : ∀ c, opens Ap c = true → PurEnv (v110 F) c := mkEnv_pur _ _ (by
  intro p hp
  simp only [List.mem_cons, List.not_mem_nil, or_false] at hp
  subst hp
  intro _; exact hF)
noncomputable def F110 : Nat → Fun
  | 0 => fun _ _ _ => none
  | n + 1 => ownFn Try.prog (v110 (F110 n)) (c_spec_l01Put 110)
theorem FA110 : ∀ n, Appends (F110 n)
  | 0 => by intro slot args h v h2 he; cases he
  | n + 1 => ownFn_app
theorem FO110 : ∀ n, FunOK Try.prog 110 (F110 n)
  | 0 => by intro slot args h v h2 he; cases he
  | n + 1 => ownFn_ok (v110_ok (FO110 n)) (v110_pur (FA110 n)) (md := Md) (by kernel_rfl) (by kernel_rfl)
theorem FK110 : ∀ n, kR_spec_l01Put (pN_spec_l01Put n) (F110 n)
  | 0 => by intro x0 b hb; cases hb
  | n + 1 => ko_spec_l01Put (show kR_spec_l01Put (pN_spec_l01Put n) (v110 (F110 n) (2 * 110 + 1)) from by unfold v110; rw [mkEnv_own (g := F110 n) (by rfl)]; exact FK110 n)
noncomputable def G110 : Fun := unionF F110 (fun args h p => ∀ x0 b, p_spec_l01Put x0 = some b → snapA 9 false h args = some (PicA.encA (x0)) → oo_spec_l01Put b h p.1 p.2)
theorem y110 : FunOK Try.prog 110 G110 := unionF_ok FO110
theorem GA110 : Appends G110 := unionF_app FA110
theorem GK110 : k_spec_l01Put G110 := by
  intro x0 b hb h args has
  obtain ⟨n, hn⟩ := fixP_some hb
  obtain ⟨p, h1, h2⟩ := FK110 n x0 b hn h args has
  obtain ⟨p, h3, h4⟩ := unionF_has (Q := fun args h p => ∀ x0 b, p_spec_l01Put x0 = some b → snapA 9 false h args = some (PicA.encA (x0)) → oo_spec_l01Put b h p.1 p.2) h1 (by
    intro y0 b' hb' has'
    rw [has] at has'
    have := encA_inj (Option.some.inj has')
    cases this
    rw [hb] at hb'
    cases hb'
    exact h2)
  exact ⟨p, h3, h4 x0 b hb has⟩
noncomputable def e81 : Env := mkEnv [] [(110, G110)]
theorem e81_ok : EnvOK Try.prog e81 := mkEnv_ok (by intro p hp; cases hp) (by
  intro p hp
  simp only [List.mem_cons, List.not_mem_nil, or_false] at hp
  subst hp
  exact y110)
theorem w81_pur : ∀ c, opens Ap c = true → PurEnv e81 c := mkEnv_pur _ _ (by
  intro p hp
  simp only [List.mem_cons, List.not_mem_nil, or_false] at hp
  subst hp
  intro _; exact GA110)
theorem x81_110 : k_spec_l01Put (e81 (2 * 110 + 1)) := by
  unfold e81
  rw [mkEnv_own (g := G110) (by rfl)]
  exact GK110
theorem y81 : FunOK Try.prog 81 (ownFn Try.prog e81 (c_spec_l02Bytes 110)) := ownFn_ok e81_ok w81_pur (md := Md) (by kernel_rfl) (by kernel_rfl)
noncomputable def e35 : Env := mkEnv [(74, true, FA fun a : TVec => p_spec_VecOK a)] [(81, (ownFn Try.prog e81 (c_spec_l02Bytes 110)))]
theorem e35_ok : EnvOK Try.prog e35 := mkEnv_ok (by
  intro p hp
  simp only [List.mem_cons, List.not_mem_nil, or_false] at hp
  subst hp
  exact o74) (by
  intro p hp
  simp only [List.mem_cons, List.not_mem_nil, or_false] at hp
  subst hp
  exact y81)
theorem w35_pur : ∀ c, opens Ap c = true → PurEnv e35 c := mkEnv_pur _ _ (by
  intro p hp
  simp only [List.mem_cons, List.not_mem_nil, or_false] at hp
  subst hp
  intro _; exact ownFn_app)
theorem u35_74 : e35 (2 * 74) = pureFn true (FA fun a : TVec => p_spec_VecOK a) := by
  unfold e35
  exact mkEnv_at (by rfl)
theorem x35_81 : k_spec_l02Bytes (e35 (2 * 81 + 1)) := by
  unfold e35
  rw [mkEnv_own (g := (ownFn Try.prog e81 (c_spec_l02Bytes 110))) (by rfl)]
  exact ko_spec_l02Bytes x81_110
theorem o35 : PureOK Try.prog 35 true (FA fun a : TVec => p_spec_VecBytes a) := pure_tells e35_ok w35_pur (md := Md) (by kernel_rfl) (A := c_spec_VecBytes 74 81) (by kernel_rfl) (by
  rintro x b hb
  exact d_spec_VecBytes u35_74 x35_81 x hb)
noncomputable def e76 : Env := mkEnv [] []
theorem e76_ok : EnvOK Try.prog e76 := mkEnv_ok (by intro p hp; cases hp) (by intro p hp; cases hp)
theorem w76_pur : ∀ c, opens Ap c = true → PurEnv e76 c := mkEnv_pur _ _ (by intro p hp; cases hp)
theorem o76 : PureOK Try.prog 76 true (FA fun a : TVec => p_impl_VecOK a) := pure_tells e76_ok w76_pur (md := Md) (by kernel_rfl) (A := c_impl_VecOK) (by kernel_rfl) (by
  rintro x b hb
  exact d_impl_VecOK x hb)
noncomputable def e82 : Env := mkEnv [] []
theorem e82_ok : EnvOK Try.prog e82 := mkEnv_ok (by intro p hp; cases hp) (by intro p hp; cases hp)
theorem w82_pur : ∀ c, opens Ap c = true → PurEnv e82 c := mkEnv_pur _ _ (by intro p hp; cases hp)
theorem y82 : FunOK Try.prog 82 (runIn Try.prog e82 (c_impl_appendInt)) := runIn_ok e82_ok w82_pur (md := Md) (by kernel_rfl) (by kernel_rfl)
noncomputable def e36 : Env := mkEnv [(76, true, FA fun a : TVec => p_impl_VecOK a)] [(82, (runIn Try.prog e82 (c_impl_appendInt)))]
theorem e36_ok : EnvOK Try.prog e36 := mkEnv_ok (by
  intro p hp
  simp only [List.mem_cons, List.not_mem_nil, or_false] at hp
  subst hp
  exact o76) (by
  intro p hp
  simp only [List.mem_cons, List.not_mem_nil, or_false] at hp
  subst hp
  exact y82)
theorem w36_pur : ∀ c, opens Ap c = true → PurEnv e36 c := mkEnv_pur _ _ (by
  intro p hp
  simp only [List.mem_cons, List.not_mem_nil, or_false] at hp
  subst hp
  intro h; exact absurd h (by rw [show Ap 82 = false from rfl]; exact Bool.false_ne_true))
theorem u36_76 : e36 (2 * 76) = pureFn true (FA fun a : TVec => p_impl_VecOK a) := by
  unfold e36
  exact mkEnv_at (by rfl)
theorem x36_82 : k_impl_appendInt (e36 (2 * 82 + 1)) := by
  unfold e36
  rw [mkEnv_own (g := (runIn Try.prog e82 (c_impl_appendInt))) (by rfl)]
  exact ko_impl_appendInt
theorem y36 : FunOK Try.prog 36 (ownFn Try.prog e36 (c_impl_VecBytes 76 82)) := ownFn_ok e36_ok w36_pur (md := Md) (by kernel_rfl) (by kernel_rfl)
noncomputable def e30 : Env := mkEnv [] []
theorem e30_ok : EnvOK Try.prog e30 := mkEnv_ok (by intro p hp; cases hp) (by intro p hp; cases hp)
theorem w30_pur : ∀ c, opens Ap c = true → PurEnv e30 c := mkEnv_pur _ _ (by intro p hp; cases hp)
theorem o30 : PureOK Try.prog 30 true (FA fun a : List U8 × List U8 => p_laws_eqByteS a.1 a.2) := pure_tells e30_ok w30_pur (md := Md) (by kernel_rfl) (A := c_laws_eqByteS) (by kernel_rfl) (by
  rintro ⟨x, y⟩ b hb
  exact d_laws_eqByteS x y hb)
noncomputable def e31 : Env := mkEnv [] []
theorem e31_ok : EnvOK Try.prog e31 := mkEnv_ok (by intro p hp; cases hp) (by intro p hp; cases hp)
theorem w31_pur : ∀ c, opens Ap c = true → PurEnv e31 c := mkEnv_pur _ _ (by intro p hp; cases hp)
theorem o31 : PureOK Try.prog 31 true (FA fun a : List Int × List Int => p_laws_eqIntS a.1 a.2) := pure_tells e31_ok w31_pur (md := Md) (by kernel_rfl) (A := c_laws_eqIntS) (by kernel_rfl) (by
  rintro ⟨x, y⟩ b hb
  exact d_laws_eqIntS x y hb)
noncomputable def e24 : Env := mkEnv [(31, true, FA fun a : List Int × List Int => p_laws_eqIntS a.1 a.2)] []
theorem e24_ok : EnvOK Try.prog e24 := mkEnv_ok (by
  intro p hp
  simp only [List.mem_cons, List.not_mem_nil, or_false] at hp
  subst hp
  exact o31) (by intro p hp; cases hp)
theorem w24_pur : ∀ c, opens Ap c = true → PurEnv e24 c := mkEnv_pur _ _ (by intro p hp; cases hp)
theorem u24_31 : e24 (2 * 31) = pureFn true (FA fun a : List Int × List Int => p_laws_eqIntS a.1 a.2) := by
  unfold e24
  exact mkEnv_at (by rfl)
theorem o24 : PureOK Try.prog 24 true (FA fun a : TVec × TVec => p_laws_eqVector a.1 a.2) := pure_tells e24_ok w24_pur (md := Md) (by kernel_rfl) (A := c_laws_eqVector 31) (by kernel_rfl) (by
  rintro ⟨x, y⟩ b hb
  exact d_laws_eqVector u24_31 x y hb)
noncomputable def e32 : Env := mkEnv [] []
theorem e32_ok : EnvOK Try.prog e32 := mkEnv_ok (by intro p hp; cases hp) (by intro p hp; cases hp)
theorem w32_pur : ∀ c, opens Ap c = true → PurEnv e32 c := mkEnv_pur _ _ (by intro p hp; cases hp)
theorem y32 : FunOK Try.prog 32 (runIn Try.prog e32 (c_laws_markIntS)) := runIn_ok e32_ok w32_pur (md := Md) (by kernel_rfl) (by kernel_rfl)
noncomputable def e25 : Env := mkEnv [] [(32, (runIn Try.prog e32 (c_laws_markIntS)))]
theorem e25_ok : EnvOK Try.prog e25 := mkEnv_ok (by intro p hp; cases hp) (by
  intro p hp
  simp only [List.mem_cons, List.not_mem_nil, or_false] at hp
  subst hp
  exact y32)
theorem w25_pur : ∀ c, opens Ap c = true → PurEnv e25 c := mkEnv_pur _ _ (by
  intro p hp
  simp only [List.mem_cons, List.not_mem_nil, or_false] at hp
  subst hp
  intro h; exact absurd h (by rw [show Ap 32 = false from rfl]; exact Bool.false_ne_true))
theorem x25_32 : k_laws_markIntS (e25 (2 * 32 + 1)) := by
  unfold e25
  rw [mkEnv_own (g := (runIn Try.prog e32 (c_laws_markIntS))) (by rfl)]
  exact ko_laws_markIntS
theorem y25 : FunOK Try.prog 25 (runIn Try.prog e25 (c_laws_markVector 32)) := runIn_ok e25_ok w25_pur (md := Md) (by kernel_rfl) (by kernel_rfl)
noncomputable def e33 : Env := mkEnv [] []
theorem e33_ok : EnvOK Try.prog e33 := mkEnv_ok (by intro p hp; cases hp) (by intro p hp; cases hp)
theorem w33_pur : ∀ c, opens Ap c = true → PurEnv e33 c := mkEnv_pur _ _ (by intro p hp; cases hp)
theorem y33 : FunOK Try.prog 33 (runIn Try.prog e33 (c_laws_markByteS)) := runIn_ok e33_ok w33_pur (md := Md) (by kernel_rfl) (by kernel_rfl)
noncomputable def e34 : Env := mkEnv [] []
theorem e34_ok : EnvOK Try.prog e34 := mkEnv_ok (by intro p hp; cases hp) (by intro p hp; cases hp)
theorem w34_pur : ∀ c, opens Ap c = true → PurEnv e34 c := mkEnv_pur _ _ (by intro p hp; cases hp)
theorem o34 : PureOK Try.prog 34 true (FA fun a : List U8 × Int => p_laws_heldByteS a.1 a.2) := pure_tells e34_ok w34_pur (md := Md) (by kernel_rfl) (A := c_laws_heldByteS) (by kernel_rfl) (by
  rintro ⟨x, y⟩ b hb
  exact d_laws_heldByteS x y hb)
noncomputable def e6 : Env := mkEnv [(20, true, FA fun a : TVec × Int => p_laws_szVector a.1 a.2), (22, true, FA fun a : TVec => p_laws_toVector a), (35, true, FA fun a : TVec => p_spec_VecBytes a), (30, true, FA fun a : List U8 × List U8 => p_laws_eqByteS a.1 a.2), (24, true, FA fun a : TVec × TVec => p_laws_eqVector a.1 a.2), (34, true, FA fun a : List U8 × Int => p_laws_heldByteS a.1 a.2)] [(22, (ownFn Try.prog e22 (c_laws_toVector 28))), (36, (ownFn Try.prog e36 (c_impl_VecBytes 76 82))), (25, (runIn Try.prog e25 (c_laws_markVector 32))), (33, (runIn Try.prog e33 (c_laws_markByteS)))]
theorem e6_ok : EnvOK Try.prog e6 := mkEnv_ok (by
  intro p hp
  simp only [List.mem_cons, List.not_mem_nil, or_false] at hp
  rcases hp with rfl | rfl | rfl | rfl | rfl | rfl
  · exact o20
  · exact o22
  · exact o35
  · exact o30
  · exact o24
  · exact o34) (by
  intro p hp
  simp only [List.mem_cons, List.not_mem_nil, or_false] at hp
  rcases hp with rfl | rfl | rfl | rfl
  · exact y22
  · exact y36
  · exact y25
  · exact y33)
theorem w6_pur : ∀ c, opens ApL c = true → PurEnv e6 c := mkEnv_pur _ _ (by
  intro p hp
  simp only [List.mem_cons, List.not_mem_nil, or_false] at hp
  rcases hp with rfl | rfl | rfl | rfl
  · intro h; exact absurd h (by rw [show ApL 22 = false from rfl]; exact Bool.false_ne_true)
  · intro h; exact absurd h (by rw [show ApL 36 = false from rfl]; exact Bool.false_ne_true)
  · intro h; exact absurd h (by rw [show ApL 25 = false from rfl]; exact Bool.false_ne_true)
  · intro h; exact absurd h (by rw [show ApL 33 = false from rfl]; exact Bool.false_ne_true))
theorem u6_20 : e6 (2 * 20) = pureFn true (FA fun a : TVec × Int => p_laws_szVector a.1 a.2) := by
  unfold e6
  exact mkEnv_at (by rfl)
theorem u6_22 : e6 (2 * 22) = pureFn true (FA fun a : TVec => p_laws_toVector a) := by
  unfold e6
  exact mkEnv_at (by rfl)
theorem u6_35 : e6 (2 * 35) = pureFn true (FA fun a : TVec => p_spec_VecBytes a) := by
  unfold e6
  exact mkEnv_at (by rfl)
theorem u6_30 : e6 (2 * 30) = pureFn true (FA fun a : List U8 × List U8 => p_laws_eqByteS a.1 a.2) := by
  unfold e6
  exact mkEnv_at (by rfl)
theorem u6_24 : e6 (2 * 24) = pureFn true (FA fun a : TVec × TVec => p_laws_eqVector a.1 a.2) := by
  unfold e6
  exact mkEnv_at (by rfl)
theorem u6_34 : e6 (2 * 34) = pureFn true (FA fun a : List U8 × Int => p_laws_heldByteS a.1 a.2) := by
  unfold e6
  exact mkEnv_at (by rfl)
theorem x6_22 : k_laws_toVector (e6 (2 * 22 + 1)) := by
  unfold e6
  rw [mkEnv_own (g := (ownFn Try.prog e22 (c_laws_toVector 28))) (by rfl)]
  exact ko_laws_toVector x22_28
theorem x6_36 : k_impl_VecBytes (e6 (2 * 36 + 1)) := by
  unfold e6
  rw [mkEnv_own (g := (ownFn Try.prog e36 (c_impl_VecBytes 76 82))) (by rfl)]
  exact ko_impl_VecBytes u36_76 x36_82
theorem x6_25 : k_laws_markVector (e6 (2 * 25 + 1)) := by
  unfold e6
  rw [mkEnv_own (g := (runIn Try.prog e25 (c_laws_markVector 32))) (by rfl)]
  exact ko_laws_markVector x25_32
theorem x6_33 : k_laws_markByteS (e6 (2 * 33 + 1)) := by
  unfold e6
  rw [mkEnv_own (g := (runIn Try.prog e33 (c_laws_markByteS))) (by rfl)]
  exact ko_laws_markByteS
theorem law : LawOK Try.prog 6 [.st [.sl 8 (.int .i64)]] := law_of_run e6_ok w6_pur (md := MdL) (A := c_laws_FnExactVecBytes 20 22 35 36 30 24 25 33 34) (by kernel_rfl) (by
  intro xs hx
  cases hx with
  | cons h0 hx =>
  cases hx
  obtain ⟨a0, rfl, k0⟩ := fit_TVec h0
  exact d_laws_FnExactVecBytes u6_20 u6_22 u6_35 u6_30 u6_24 u6_34 x6_22 x6_36 x6_25 x6_33 a0 (plain_VecBytes a0 k0))
theorem own : ownKnob Try.prog.godebug = none := by kernel_rfl
theorem laidOut : laidOutB Try.prog = true := by kernel_rfl
set_option maxRecDepth 100000 in
theorem lifted (os : Os) (started : os.Started) (H : Type) (enc : TypeId × Value → H) :
    ReturnsInHanded {} Try.checked os 6 .any (Rows.fnExactVecBytesSpec.pre6 enc Try.prog Try.f6 Rows.fnExactVecBytesRow.domain false) (Rows.fnExactVecBytesSpec.post enc Try.prog Try.f6 false true false false) := by
  refine returnsInHanded_of_change_sized (C := Try.checked) own started (by kernel_rfl) Try.func6
    (ChangeSpec.witness6 (enc := enc) (C := Try.checked) false ⟨#[], #[.agg #[.slice none 0 0]], []⟩ 8 (by kernel_rfl) (by kernel_rfl) (by kernel_rfl) (by kernel_rfl)) ?_
  intro W base args ds gs before hval hW hcnd hsz _
  refine law_contract (n := 8) (tb := 4) (shs := [.st [.sl 8 (.int .i64)]]) laidOut rfl ?_ (by kernel_rfl) Try.underlying4 (by kernel_rfl) (by kernel_rfl) law W base args ds gs before hval hW hsz
  intro ds hds
  have h1 : ds.length = 1 := hds
  match ds, h1 with
  | [d0], _ => rfl
theorem over : Rows.fnExactVecBytesRow.holds Try.pinned (OpenSpec.ofChange Rows.fnExactVecBytesSpec) :=
  OpenClaim.holds_of_wide 6 Try.f6 rfl rfl rfl rfl rfl rfl rfl ⟨rfl, rfl, rfl, rfl, rfl⟩ rfl rfl rfl rfl rfl (by kernel_rfl) Try.func6 (by kernel_rfl)
    (of_decide_eq_true (by kernel_rfl)) (by unfold Func.isWrapper; first | (rw [if_pos (by decide +kernel)]; kernel_rfl) | (rw [if_neg (by decide +kernel)]; exact ⟨rfl, rfl⟩))
    (fun os started H enc _ => lifted os started H enc)
theorem proved : Rows.FnExactVecBytesSaid := over
#print axioms proved
end Go.Proofs.Ytjnkmdphjopboaa.RFnExactVecBytes
namespace Go.Proofs.Ytjnkmdphjopboaa
/-- The row, under a short name, for the claim. -/
theorem fnExactVecBytes_holds : Rows.FnExactVecBytesSaid := RFnExactVecBytes.proved
end Go.Proofs.Ytjnkmdphjopboaa
