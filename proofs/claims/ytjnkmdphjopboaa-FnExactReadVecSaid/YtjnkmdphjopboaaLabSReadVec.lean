/- The law FnExactReadVec: its functions' contracts, its run, its row. No condition. -/
import Derived.Test.YtjnkmdphjopboaaRows
import Derived.Test.YtjnkmdphjopboaaLabPReadVec
import Derived.WalkKit
import Derived.ProofKit
set_option linter.unusedVariables false
namespace Go.Proofs.Ytjnkmdphjopboaa.RFnExactReadVec
open Go.AM
open Pic (enc dec dec_enc dec_sub)
def Md : Modes := fun f => if f == 16 then 4 else if f == 17 then 1 else if f == 21 then 4 else if f == 22 then 1 else if f == 23 then 1 else if f == 25 then 2 else if f == 27 then 4 else if f == 28 then 1 else if f == 29 then 1 else if f == 32 then 2 else if f == 33 then 2 else if f == 35 then 4 else if f == 36 then 1 else if f == 37 then 4 else if f == 38 then 1 else if f == 39 then 2 else if f == 42 then 4 else if f == 43 then 1 else if f == 44 then 1 else if f == 46 then 2 else if f == 48 then 4 else if f == 49 then 1 else if f == 50 then 1 else if f == 52 then 2 else if f == 54 then 4 else if f == 55 then 1 else if f == 56 then 4 else if f == 57 then 1 else if f == 58 then 1 else if f == 59 then 4 else if f == 60 then 1 else if f == 61 then 4 else if f == 62 then 1 else if f == 65 then 4 else if f == 66 then 1 else if f == 67 then 1 else if f == 69 then 2 else if f == 74 then 4 else if f == 77 then 1 else if f == 79 then 1 else if f == 80 then 2 else if f == 81 then 1 else if f == 82 then 2 else if f == 83 then 1 else if f == 84 then 2 else if f == 91 then 1 else if f == 93 then 1 else if f == 94 then 1 else if f == 95 then 2 else if f == 96 then 2 else if f == 98 then 1 else if f == 99 then 2 else if f == 100 then 2 else if f == 104 then 1 else if f == 106 then 1 else if f == 108 then 2 else if f == 110 then 1 else if f == 119 then 2 else if f == 122 then 4 else if f == 123 then 4 else 0
def Ap : Nat → Bool := fun f => Md f == 1
def MdL : Modes := fun f => if Md f == 1 then 3 else Md f
def ApL : Nat → Bool := fun f => MdL f == 1
noncomputable def e57 : Env := mkEnv [] []
theorem e57_ok : EnvOK Try.prog e57 := mkEnv_ok (by intro p hp; cases hp) (by intro p hp; cases hp)
theorem w57_pur : ∀ c, opens Ap c = true → PurEnv e57 c := mkEnv_pur _ _ (by intro p hp; cases hp)
theorem o57 : PureOK Try.prog 57 true (FA fun a : List U8 => p_laws_toByteS a) := pure_tells e57_ok w57_pur (md := Md) (by kernel_rfl) (A := c_laws_toByteS) (by kernel_rfl) (by
  rintro x b hb
  exact d_laws_toByteS x hb)
theorem y57 : FunOK Try.prog 57 (ownFn Try.prog e57 (c_laws_toByteS)) := ownFn_ok e57_ok w57_pur (md := Md) (by kernel_rfl) (by kernel_rfl)
noncomputable def e94 : Env := mkEnv [] []
theorem e94_ok : EnvOK Try.prog e94 := mkEnv_ok (by intro p hp; cases hp) (by intro p hp; cases hp)
theorem w94_pur : ∀ c, opens Ap c = true → PurEnv e94 c := mkEnv_pur _ _ (by intro p hp; cases hp)
theorem y94 : FunOK Try.prog 94 (ownFn Try.prog e94 (c_spec_l02New)) := ownFn_ok e94_ok w94_pur (md := Md) (by kernel_rfl) (by kernel_rfl)
noncomputable def e118 : Env := mkEnv [] []
theorem e118_ok : EnvOK Try.prog e118 := mkEnv_ok (by intro p hp; cases hp) (by intro p hp; cases hp)
theorem w118_pur : ∀ c, opens Ap c = true → PurEnv e118 c := mkEnv_pur _ _ (by intro p hp; cases hp)
theorem o118 : PureOK Try.prog 118 true (FA fun a : List U8 × Int => p_spec_l01Get a.1 a.2) := pure_tells e118_ok w118_pur (md := Md) (by kernel_rfl) (A := c_spec_l01Get) (by kernel_rfl) (by
  rintro ⟨x, y⟩ b hb
  exact d_spec_l01Get x y hb)
noncomputable def e95 : Env := mkEnv [(118, true, FA fun a : List U8 × Int => p_spec_l01Get a.1 a.2)] []
theorem e95_ok : EnvOK Try.prog e95 := mkEnv_ok (by
  intro p hp
  simp only [List.mem_cons, List.not_mem_nil, or_false] at hp
  subst hp
  exact o118) (by intro p hp; cases hp)
theorem w95_pur : ∀ c, opens Ap c = true → PurEnv e95 c := mkEnv_pur _ _ (by intro p hp; cases hp)
theorem u95_118 : e95 (2 * 118) = pureFn true (FA fun a : List U8 × Int => p_spec_l01Get a.1 a.2) := by
  unfold e95
  exact mkEnv_at (by rfl)
theorem y95 : FunOK Try.prog 95 (runIn Try.prog e95 (c_spec_l01Reader_num 118)) := runIn_ok e95_ok w95_pur (md := Md) (by kernel_rfl) (by kernel_rfl)
noncomputable def e74 : Env := mkEnv [] []
theorem e74_ok : EnvOK Try.prog e74 := mkEnv_ok (by intro p hp; cases hp) (by intro p hp; cases hp)
theorem w74_pur : ∀ c, opens Ap c = true → PurEnv e74 c := mkEnv_pur _ _ (by intro p hp; cases hp)
theorem o74 : PureOK Try.prog 74 true (FA fun a : TVec => p_spec_VecOK a) := pure_tells e74_ok w74_pur (md := Md) (by kernel_rfl) (A := c_spec_VecOK) (by kernel_rfl) (by
  rintro x b hb
  exact d_spec_VecOK x hb)
noncomputable def v110 (F : Fun) : Env := mkEnv [] [(110, F)]
theorem v110_ok {F : Fun} (hF : FunOK Try.prog 110 F) : EnvOK Try.prog (v110 F) := mkEnv_ok (by intro p hp; cases hp) (by
  intro p hp
  simp only [List.mem_cons, List.not_mem_nil, or_false] at hp
  subst hp
  exact hF)
theorem v110_pur {F : Fun} (hF : Appends F) : ∀ c, opens Ap c = true → PurEnv (v110 F) c := mkEnv_pur _ _ (by
  intro p hp
  simp only [List.mem_cons, List.not_mem_nil, or_false] at hp
  subst hp
  intro _; exact hF)
noncomputable def F110 : Nat → Fun
  | 0 => fun _ _ _ => none
  | n + 1 => ownFn Try.prog (v110 (F110 n)) (c_spec_l01Put 110)
theorem FA110 : ∀ n, Appends (F110 n)
  | 0 => by intro slot args h v h2 he; cases he
  | n + 1 => ownFn_app
theorem FO110 : ∀ n, FunOK Try.prog 110 (F110 n)
  | 0 => by intro slot args h v h2 he; cases he
  | n + 1 => ownFn_ok (v110_ok (FO110 n)) (v110_pur (FA110 n)) (md := Md) (by kernel_rfl) (by kernel_rfl)
theorem FK110 : ∀ n, kR_spec_l01Put (pN_spec_l01Put n) (F110 n)
  | 0 => by intro x0 b hb; cases hb
  | n + 1 => ko_spec_l01Put (show kR_spec_l01Put (pN_spec_l01Put n) (v110 (F110 n) (2 * 110 + 1)) from by unfold v110; rw [mkEnv_own (g := F110 n) (by rfl)]; exact FK110 n)
noncomputable def G110 : Fun := unionF F110 (fun args h p => ∀ x0 b, p_spec_l01Put x0 = some b → snapA 9 false h args = some (PicA.encA (x0)) → oo_spec_l01Put b h p.1 p.2)
theorem y110 : FunOK Try.prog 110 G110 := unionF_ok FO110
theorem GA110 : Appends G110 := unionF_app FA110
theorem GK110 : k_spec_l01Put G110 := by
  intro x0 b hb h args has
  obtain ⟨n, hn⟩ := fixP_some hb
  obtain ⟨p, h1, h2⟩ := FK110 n x0 b hn h args has
  obtain ⟨p, h3, h4⟩ := unionF_has (Q := fun args h p => ∀ x0 b, p_spec_l01Put x0 = some b → snapA 9 false h args = some (PicA.encA (x0)) → oo_spec_l01Put b h p.1 p.2) h1 (by
    intro y0 b' hb' has'
    rw [has] at has'
    have := encA_inj (Option.some.inj has')
    cases this
    rw [hb] at hb'
    cases hb'
    exact h2)
  exact ⟨p, h3, h4 x0 b hb has⟩
noncomputable def e81 : Env := mkEnv [] [(110, G110)]
theorem e81_ok : EnvOK Try.prog e81 := mkEnv_ok (by intro p hp; cases hp) (by
  intro p hp
  simp only [List.mem_cons, List.not_mem_nil, or_false] at hp
  subst hp
  exact y110)
theorem w81_pur : ∀ c, opens Ap c = true → PurEnv e81 c := mkEnv_pur _ _ (by
  intro p hp
  simp only [List.mem_cons, List.not_mem_nil, or_false] at hp
  subst hp
  intro _; exact GA110)
theorem x81_110 : k_spec_l01Put (e81 (2 * 110 + 1)) := by
  unfold e81
  rw [mkEnv_own (g := G110) (by rfl)]
  exact GK110
theorem y81 : FunOK Try.prog 81 (ownFn Try.prog e81 (c_spec_l02Bytes 110)) := ownFn_ok e81_ok w81_pur (md := Md) (by kernel_rfl) (by kernel_rfl)
noncomputable def e56 : Env := mkEnv [(74, true, FA fun a : TVec => p_spec_VecOK a)] [(94, (ownFn Try.prog e94 (c_spec_l02New))), (95, (runIn Try.prog e95 (c_spec_l01Reader_num 118))), (81, (ownFn Try.prog e81 (c_spec_l02Bytes 110)))]
theorem e56_ok : EnvOK Try.prog e56 := mkEnv_ok (by
  intro p hp
  simp only [List.mem_cons, List.not_mem_nil, or_false] at hp
  subst hp
  exact o74) (by
  intro p hp
  simp only [List.mem_cons, List.not_mem_nil, or_false] at hp
  rcases hp with rfl | rfl | rfl
  · exact y94
  · exact y95
  · exact y81)
theorem w56_pur : ∀ c, opens Ap c = true → PurEnv e56 c := mkEnv_pur _ _ (by
  intro p hp
  simp only [List.mem_cons, List.not_mem_nil, or_false] at hp
  rcases hp with rfl | rfl | rfl
  · intro _; exact ownFn_app
  · intro h; exact absurd h (by rw [show Ap 95 = false from rfl]; exact Bool.false_ne_true)
  · intro _; exact ownFn_app)
theorem u56_74 : e56 (2 * 74) = pureFn true (FA fun a : TVec => p_spec_VecOK a) := by
  unfold e56
  exact mkEnv_at (by rfl)
theorem x56_94 : k_spec_l02New (e56 (2 * 94 + 1)) := by
  unfold e56
  rw [mkEnv_own (g := (ownFn Try.prog e94 (c_spec_l02New))) (by rfl)]
  exact ko_spec_l02New
theorem x56_95 : k_spec_l01Reader_num (e56 (2 * 95 + 1)) := by
  unfold e56
  rw [mkEnv_own (g := (runIn Try.prog e95 (c_spec_l01Reader_num 118))) (by rfl)]
  exact ko_spec_l01Reader_num u95_118
theorem x56_81 : k_spec_l02Bytes (e56 (2 * 81 + 1)) := by
  unfold e56
  rw [mkEnv_own (g := (ownFn Try.prog e81 (c_spec_l02Bytes 110))) (by rfl)]
  exact ko_spec_l02Bytes x81_110
theorem o56 : PureOK Try.prog 56 true (FA fun a : List U8 => p_spec_ReadVec a) := pure_tells e56_ok w56_pur (md := Md) (by kernel_rfl) (A := c_spec_ReadVec 94 95 74 81) (by kernel_rfl) (by
  rintro x b hb
  exact d_spec_ReadVec u56_74 x56_94 x56_95 x56_81 x hb)
noncomputable def e96 : Env := mkEnv [] []
theorem e96_ok : EnvOK Try.prog e96 := mkEnv_ok (by intro p hp; cases hp) (by intro p hp; cases hp)
theorem w96_pur : ∀ c, opens Ap c = true → PurEnv e96 c := mkEnv_pur _ _ (by intro p hp; cases hp)
theorem y96 : FunOK Try.prog 96 (runIn Try.prog e96 (c_impl_reader_num)) := runIn_ok e96_ok w96_pur (md := Md) (by kernel_rfl) (by kernel_rfl)
noncomputable def e58 : Env := mkEnv [] [(96, (runIn Try.prog e96 (c_impl_reader_num)))]
theorem e58_ok : EnvOK Try.prog e58 := mkEnv_ok (by intro p hp; cases hp) (by
  intro p hp
  simp only [List.mem_cons, List.not_mem_nil, or_false] at hp
  subst hp
  exact y96)
theorem w58_pur : ∀ c, opens Ap c = true → PurEnv e58 c := mkEnv_pur _ _ (by
  intro p hp
  simp only [List.mem_cons, List.not_mem_nil, or_false] at hp
  subst hp
  intro h; exact absurd h (by rw [show Ap 96 = false from rfl]; exact Bool.false_ne_true))
theorem x58_96 : k_impl_reader_num (e58 (2 * 96 + 1)) := by
  unfold e58
  rw [mkEnv_own (g := (runIn Try.prog e96 (c_impl_reader_num))) (by rfl)]
  exact ko_impl_reader_num
theorem y58 : FunOK Try.prog 58 (ownFn Try.prog e58 (c_impl_ReadVec 96)) := ownFn_ok e58_ok w58_pur (md := Md) (by kernel_rfl) (by kernel_rfl)
noncomputable def e31 : Env := mkEnv [] []
theorem e31_ok : EnvOK Try.prog e31 := mkEnv_ok (by intro p hp; cases hp) (by intro p hp; cases hp)
theorem w31_pur : ∀ c, opens Ap c = true → PurEnv e31 c := mkEnv_pur _ _ (by intro p hp; cases hp)
theorem o31 : PureOK Try.prog 31 true (FA fun a : List Int × List Int => p_laws_eqIntS a.1 a.2) := pure_tells e31_ok w31_pur (md := Md) (by kernel_rfl) (A := c_laws_eqIntS) (by kernel_rfl) (by
  rintro ⟨x, y⟩ b hb
  exact d_laws_eqIntS x y hb)
noncomputable def e24 : Env := mkEnv [(31, true, FA fun a : List Int × List Int => p_laws_eqIntS a.1 a.2)] []
theorem e24_ok : EnvOK Try.prog e24 := mkEnv_ok (by
  intro p hp
  simp only [List.mem_cons, List.not_mem_nil, or_false] at hp
  subst hp
  exact o31) (by intro p hp; cases hp)
theorem w24_pur : ∀ c, opens Ap c = true → PurEnv e24 c := mkEnv_pur _ _ (by intro p hp; cases hp)
theorem u24_31 : e24 (2 * 31) = pureFn true (FA fun a : List Int × List Int => p_laws_eqIntS a.1 a.2) := by
  unfold e24
  exact mkEnv_at (by rfl)
theorem o24 : PureOK Try.prog 24 true (FA fun a : TVec × TVec => p_laws_eqVector a.1 a.2) := pure_tells e24_ok w24_pur (md := Md) (by kernel_rfl) (A := c_laws_eqVector 31) (by kernel_rfl) (by
  rintro ⟨x, y⟩ b hb
  exact d_laws_eqVector u24_31 x y hb)
noncomputable def e30 : Env := mkEnv [] []
theorem e30_ok : EnvOK Try.prog e30 := mkEnv_ok (by intro p hp; cases hp) (by intro p hp; cases hp)
theorem w30_pur : ∀ c, opens Ap c = true → PurEnv e30 c := mkEnv_pur _ _ (by intro p hp; cases hp)
theorem o30 : PureOK Try.prog 30 true (FA fun a : List U8 × List U8 => p_laws_eqByteS a.1 a.2) := pure_tells e30_ok w30_pur (md := Md) (by kernel_rfl) (A := c_laws_eqByteS) (by kernel_rfl) (by
  rintro ⟨x, y⟩ b hb
  exact d_laws_eqByteS x y hb)
noncomputable def e33 : Env := mkEnv [] []
theorem e33_ok : EnvOK Try.prog e33 := mkEnv_ok (by intro p hp; cases hp) (by intro p hp; cases hp)
theorem w33_pur : ∀ c, opens Ap c = true → PurEnv e33 c := mkEnv_pur _ _ (by intro p hp; cases hp)
theorem y33 : FunOK Try.prog 33 (runIn Try.prog e33 (c_laws_markByteS)) := runIn_ok e33_ok w33_pur (md := Md) (by kernel_rfl) (by kernel_rfl)
noncomputable def e32 : Env := mkEnv [] []
theorem e32_ok : EnvOK Try.prog e32 := mkEnv_ok (by intro p hp; cases hp) (by intro p hp; cases hp)
theorem w32_pur : ∀ c, opens Ap c = true → PurEnv e32 c := mkEnv_pur _ _ (by intro p hp; cases hp)
theorem y32 : FunOK Try.prog 32 (runIn Try.prog e32 (c_laws_markIntS)) := runIn_ok e32_ok w32_pur (md := Md) (by kernel_rfl) (by kernel_rfl)
noncomputable def e25 : Env := mkEnv [] [(32, (runIn Try.prog e32 (c_laws_markIntS)))]
theorem e25_ok : EnvOK Try.prog e25 := mkEnv_ok (by intro p hp; cases hp) (by
  intro p hp
  simp only [List.mem_cons, List.not_mem_nil, or_false] at hp
  subst hp
  exact y32)
theorem w25_pur : ∀ c, opens Ap c = true → PurEnv e25 c := mkEnv_pur _ _ (by
  intro p hp
  simp only [List.mem_cons, List.not_mem_nil, or_false] at hp
  subst hp
  intro h; exact absurd h (by rw [show Ap 32 = false from rfl]; exact Bool.false_ne_true))
theorem x25_32 : k_laws_markIntS (e25 (2 * 32 + 1)) := by
  unfold e25
  rw [mkEnv_own (g := (runIn Try.prog e32 (c_laws_markIntS))) (by rfl)]
  exact ko_laws_markIntS
theorem y25 : FunOK Try.prog 25 (runIn Try.prog e25 (c_laws_markVector 32)) := runIn_ok e25_ok w25_pur (md := Md) (by kernel_rfl) (by kernel_rfl)
noncomputable def e63 : Env := mkEnv [] []
theorem e63_ok : EnvOK Try.prog e63 := mkEnv_ok (by intro p hp; cases hp) (by intro p hp; cases hp)
theorem w63_pur : ∀ c, opens Ap c = true → PurEnv e63 c := mkEnv_pur _ _ (by intro p hp; cases hp)
theorem o63 : PureOK Try.prog 63 true (FA fun a : List Int × Int => p_laws_heldIntS a.1 a.2) := pure_tells e63_ok w63_pur (md := Md) (by kernel_rfl) (A := c_laws_heldIntS) (by kernel_rfl) (by
  rintro ⟨x, y⟩ b hb
  exact d_laws_heldIntS x y hb)
noncomputable def e26 : Env := mkEnv [(63, true, FA fun a : List Int × Int => p_laws_heldIntS a.1 a.2)] []
theorem e26_ok : EnvOK Try.prog e26 := mkEnv_ok (by
  intro p hp
  simp only [List.mem_cons, List.not_mem_nil, or_false] at hp
  subst hp
  exact o63) (by intro p hp; cases hp)
theorem w26_pur : ∀ c, opens Ap c = true → PurEnv e26 c := mkEnv_pur _ _ (by intro p hp; cases hp)
theorem u26_63 : e26 (2 * 63) = pureFn true (FA fun a : List Int × Int => p_laws_heldIntS a.1 a.2) := by
  unfold e26
  exact mkEnv_at (by rfl)
theorem o26 : PureOK Try.prog 26 true (FA fun a : TVec × Int => p_laws_heldVector a.1 a.2) := pure_tells e26_ok w26_pur (md := Md) (by kernel_rfl) (A := c_laws_heldVector 63) (by kernel_rfl) (by
  rintro ⟨x, y⟩ b hb
  exact d_laws_heldVector u26_63 x y hb)
noncomputable def e11 : Env := mkEnv [(57, true, FA fun a : List U8 => p_laws_toByteS a), (56, true, FA fun a : List U8 => p_spec_ReadVec a), (24, true, FA fun a : TVec × TVec => p_laws_eqVector a.1 a.2), (30, true, FA fun a : List U8 × List U8 => p_laws_eqByteS a.1 a.2), (26, true, FA fun a : TVec × Int => p_laws_heldVector a.1 a.2)] [(57, (ownFn Try.prog e57 (c_laws_toByteS))), (58, (ownFn Try.prog e58 (c_impl_ReadVec 96))), (33, (runIn Try.prog e33 (c_laws_markByteS))), (25, (runIn Try.prog e25 (c_laws_markVector 32)))]
theorem e11_ok : EnvOK Try.prog e11 := mkEnv_ok (by
  intro p hp
  simp only [List.mem_cons, List.not_mem_nil, or_false] at hp
  rcases hp with rfl | rfl | rfl | rfl | rfl
  · exact o57
  · exact o56
  · exact o24
  · exact o30
  · exact o26) (by
  intro p hp
  simp only [List.mem_cons, List.not_mem_nil, or_false] at hp
  rcases hp with rfl | rfl | rfl | rfl
  · exact y57
  · exact y58
  · exact y33
  · exact y25)
theorem w11_pur : ∀ c, opens ApL c = true → PurEnv e11 c := mkEnv_pur _ _ (by
  intro p hp
  simp only [List.mem_cons, List.not_mem_nil, or_false] at hp
  rcases hp with rfl | rfl | rfl | rfl
  · intro h; exact absurd h (by rw [show ApL 57 = false from rfl]; exact Bool.false_ne_true)
  · intro h; exact absurd h (by rw [show ApL 58 = false from rfl]; exact Bool.false_ne_true)
  · intro h; exact absurd h (by rw [show ApL 33 = false from rfl]; exact Bool.false_ne_true)
  · intro h; exact absurd h (by rw [show ApL 25 = false from rfl]; exact Bool.false_ne_true))
theorem u11_57 : e11 (2 * 57) = pureFn true (FA fun a : List U8 => p_laws_toByteS a) := by
  unfold e11
  exact mkEnv_at (by rfl)
theorem u11_56 : e11 (2 * 56) = pureFn true (FA fun a : List U8 => p_spec_ReadVec a) := by
  unfold e11
  exact mkEnv_at (by rfl)
theorem u11_24 : e11 (2 * 24) = pureFn true (FA fun a : TVec × TVec => p_laws_eqVector a.1 a.2) := by
  unfold e11
  exact mkEnv_at (by rfl)
theorem u11_30 : e11 (2 * 30) = pureFn true (FA fun a : List U8 × List U8 => p_laws_eqByteS a.1 a.2) := by
  unfold e11
  exact mkEnv_at (by rfl)
theorem u11_26 : e11 (2 * 26) = pureFn true (FA fun a : TVec × Int => p_laws_heldVector a.1 a.2) := by
  unfold e11
  exact mkEnv_at (by rfl)
theorem x11_57 : k_laws_toByteS (e11 (2 * 57 + 1)) := by
  unfold e11
  rw [mkEnv_own (g := (ownFn Try.prog e57 (c_laws_toByteS))) (by rfl)]
  exact ko_laws_toByteS
theorem x11_58 : k_impl_ReadVec (e11 (2 * 58 + 1)) := by
  unfold e11
  rw [mkEnv_own (g := (ownFn Try.prog e58 (c_impl_ReadVec 96))) (by rfl)]
  exact ko_impl_ReadVec x58_96
theorem x11_33 : k_laws_markByteS (e11 (2 * 33 + 1)) := by
  unfold e11
  rw [mkEnv_own (g := (runIn Try.prog e33 (c_laws_markByteS))) (by rfl)]
  exact ko_laws_markByteS
theorem x11_25 : k_laws_markVector (e11 (2 * 25 + 1)) := by
  unfold e11
  rw [mkEnv_own (g := (runIn Try.prog e25 (c_laws_markVector 32))) (by rfl)]
  exact ko_laws_markVector x25_32
theorem law : LawOK Try.prog 11 [.sl 1 (.int .u8)] := law_of_run e11_ok w11_pur (md := MdL) (A := c_laws_FnExactReadVec 57 56 58 24 30 33 25 26) (by kernel_rfl) (by
  intro xs hx
  cases hx with
  | cons h0 hx =>
  cases hx
  obtain ⟨a0, rfl, k0⟩ := fit_sl (α := U8) rfl (fun x hx => fit_u8 hx) h0
  exact d_laws_FnExactReadVec u11_57 u11_56 u11_24 u11_30 u11_26 x11_57 x11_58 x11_33 x11_25 a0 (plain_ReadVec a0 k0))
theorem own : ownKnob Try.prog.godebug = none := by kernel_rfl
theorem laidOut : laidOutB Try.prog = true := by kernel_rfl
set_option maxRecDepth 100000 in
theorem lifted (os : Os) (started : os.Started) (H : Type) (enc : TypeId × Value → H) :
    ReturnsInHanded {} Try.checked os 11 .any (Rows.fnExactReadVecSpec.pre6 enc Try.prog Try.f11 Rows.fnExactReadVecRow.domain false) (Rows.fnExactReadVecSpec.post enc Try.prog Try.f11 false true false false) := by
  refine returnsInHanded_of_change_sized (C := Try.checked) own started (by kernel_rfl) Try.func11
    (ChangeSpec.witness6 (enc := enc) (C := Try.checked) false ⟨#[], #[.slice none 0 0], []⟩ 8 (by kernel_rfl) (by kernel_rfl) (by kernel_rfl) (by kernel_rfl)) ?_
  intro W base args ds gs before hval hW hcnd hsz _
  refine law_contract (n := 8) (tb := 4) (shs := [.sl 1 (.int .u8)]) laidOut rfl ?_ (by kernel_rfl) Try.underlying4 (by kernel_rfl) (by kernel_rfl) law W base args ds gs before hval hW hsz
  intro ds hds
  have h1 : ds.length = 1 := hds
  match ds, h1 with
  | [d0], _ => rfl
theorem over : Rows.fnExactReadVecRow.holds Try.pinned (OpenSpec.ofChange Rows.fnExactReadVecSpec) :=
  OpenClaim.holds_of_wide 11 Try.f11 rfl rfl rfl rfl rfl rfl rfl ⟨rfl, rfl, rfl, rfl, rfl⟩ rfl rfl rfl rfl rfl (by kernel_rfl) Try.func11 (by kernel_rfl)
    (of_decide_eq_true (by kernel_rfl)) (by unfold Func.isWrapper; first | (rw [if_pos (by decide +kernel)]; kernel_rfl) | (rw [if_neg (by decide +kernel)]; exact ⟨rfl, rfl⟩))
    (fun os started H enc _ => lifted os started H enc)
theorem proved : Rows.FnExactReadVecSaid := over
#print axioms proved
end Go.Proofs.Ytjnkmdphjopboaa.RFnExactReadVec
namespace Go.Proofs.Ytjnkmdphjopboaa
/-- The row, under a short name, for the claim. -/
theorem fnExactReadVec_holds : Rows.FnExactReadVecSaid := RFnExactReadVec.proved
end Go.Proofs.Ytjnkmdphjopboaa
