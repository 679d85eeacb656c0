/- The law FnExactGetRuns: its functions' contracts, its run, its row. No condition. -/
import Derived.Test.YtogokiglmhnjkaaRows
import Derived.Test.YtogokiglmhnjkaaLabPGetRuns
import Derived.WalkKit
import Derived.ProofKit
set_option linter.unusedVariables false
namespace Go.Proofs.Ytogokiglmhnjkaa.RFnExactGetRuns
open Go.AM
open Pic (enc dec dec_enc dec_sub)
def Md : Modes := fun f => if f == 10 then 4 else if f == 11 then 1 else if f == 12 then 1 else if f == 14 then 2 else if f == 16 then 4 else if f == 17 then 1 else if f == 18 then 1 else if f == 21 then 2 else if f == 22 then 2 else if f == 26 then 4 else if f == 27 then 1 else if f == 28 then 1 else if f == 29 then 1 else if f == 32 then 2 else if f == 33 then 2 else if f == 35 then 4 else if f == 36 then 1 else if f == 38 then 4 else if f == 39 then 1 else if f == 42 then 4 else if f == 43 then 1 else if f == 46 then 2 else if f == 47 then 2 else if f == 48 then 2 else if f == 53 then 1 else if f == 54 then 1 else if f == 57 then 1 else if f == 59 then 2 else if f == 61 then 2 else if f == 62 then 1 else if f == 63 then 2 else if f == 69 then 1 else if f == 70 then 1 else if f == 75 then 2 else if f == 81 then 1 else if f == 91 then 4 else if f == 92 then 1 else if f == 94 then 2 else if f == 95 then 2 else if f == 96 then 1 else if f == 98 then 2 else if f == 100 then 1 else if f == 108 then 2 else if f == 110 then 4 else if f == 119 then 2 else if f == 133 then 2 else if f == 134 then 2 else if f == 135 then 2 else if f == 136 then 2 else if f == 137 then 2 else if f == 138 then 2 else if f == 139 then 2 else if f == 140 then 2 else if f == 141 then 4 else if f == 142 then 2 else if f == 144 then 2 else if f == 145 then 2 else if f == 146 then 2 else if f == 147 then 2 else 0
def Ap : Nat → Bool := fun f => Md f == 1 && f != 96
def MdL : Modes := fun f => if Md f == 1 then 3 else Md f
def ApL : Nat → Bool := fun f => MdL f == 1 && f != 96
noncomputable def e17 : Env := mkEnv [] []
theorem e17_ok : EnvOK Try.prog e17 := mkEnv_ok (by intro p hp; cases hp) (by intro p hp; cases hp)
theorem w17_pur : ∀ c, opens Ap c = true → PurEnv e17 c := mkEnv_pur _ _ (by intro p hp; cases hp)
theorem o17 : PureOK Try.prog 17 true (FA fun a : List U8 => p_laws_toByteS a) := pure_tells e17_ok w17_pur (md := Md) (by kernel_rfl) (A := c_laws_toByteS) (by kernel_rfl) (by
  rintro x b hb
  exact d_laws_toByteS x hb)
theorem y17 : FunOK Try.prog 17 (ownFn Try.prog e17 (c_laws_toByteS)) := ownFn_ok e17_ok w17_pur (md := Md) (by kernel_rfl) (by kernel_rfl)
noncomputable def e118 : Env := mkEnv [] []
theorem e118_ok : EnvOK Try.prog e118 := mkEnv_ok (by intro p hp; cases hp) (by intro p hp; cases hp)
theorem w118_pur : ∀ c, opens Ap c = true → PurEnv e118 c := mkEnv_pur _ _ (by intro p hp; cases hp)
theorem o118 : PureOK Try.prog 118 true (FA fun a : List U8 × Int => p_spec_l01Get a.1 a.2) := pure_tells e118_ok w118_pur (md := Md) (by kernel_rfl) (A := c_spec_l01Get) (by kernel_rfl) (by
  rintro ⟨x, y⟩ b hb
  exact d_spec_l01Get x y hb)
noncomputable def e95 : Env := mkEnv [(118, true, FA fun a : List U8 × Int => p_spec_l01Get a.1 a.2)] []
theorem e95_ok : EnvOK Try.prog e95 := mkEnv_ok (by
  intro p hp
  simp only [List.mem_cons, List.not_mem_nil, or_false] at hp
  subst hp
  exact o118) (by intro p hp; cases hp)
theorem w95_pur : ∀ c, opens Ap c = true → PurEnv e95 c := mkEnv_pur _ _ (by intro p hp; cases hp)
theorem u95_118 : e95 (2 * 118) = pureFn true (FA fun a : List U8 × Int => p_spec_l01Get a.1 a.2) := by
  unfold e95
  exact mkEnv_at (by rfl)
theorem y95 : FunOK Try.prog 95 (runIn Try.prog e95 (c_spec_l01Reader_num 118)) := runIn_ok e95_ok w95_pur (md := Md) (by kernel_rfl) (by kernel_rfl)
noncomputable def e94 : Env := mkEnv [] [(95, (runIn Try.prog e95 (c_spec_l01Reader_num 118)))]
theorem e94_ok : EnvOK Try.prog e94 := mkEnv_ok (by intro p hp; cases hp) (by
  intro p hp
  simp only [List.mem_cons, List.not_mem_nil, or_false] at hp
  subst hp
  exact y95)
theorem w94_pur : ∀ c, opens Ap c = true → PurEnv e94 c := mkEnv_pur _ _ (by
  intro p hp
  simp only [List.mem_cons, List.not_mem_nil, or_false] at hp
  subst hp
  intro h; exact absurd h (by rw [show Ap 95 = false from rfl]; exact Bool.false_ne_true))
theorem x94_95 : k_spec_l01Reader_num (e94 (2 * 95 + 1)) := by
  unfold e94
  rw [mkEnv_own (g := (runIn Try.prog e95 (c_spec_l01Reader_num 118))) (by rfl)]
  exact ko_spec_l01Reader_num u95_118
theorem y94 : FunOK Try.prog 94 (runIn Try.prog e94 (c_spec_l01Reader_count 95)) := runIn_ok e94_ok w94_pur (md := Md) (by kernel_rfl) (by kernel_rfl)
noncomputable def e61 : Env := mkEnv [] [(94, (runIn Try.prog e94 (c_spec_l01Reader_count 95))), (95, (runIn Try.prog e95 (c_spec_l01Reader_num 118)))]
theorem e61_ok : EnvOK Try.prog e61 := mkEnv_ok (by intro p hp; cases hp) (by
  intro p hp
  simp only [List.mem_cons, List.not_mem_nil, or_false] at hp
  rcases hp with rfl | rfl
  · exact y94
  · exact y95)
theorem w61_pur : ∀ c, opens Ap c = true → PurEnv e61 c := mkEnv_pur _ _ (by
  intro p hp
  simp only [List.mem_cons, List.not_mem_nil, or_false] at hp
  rcases hp with rfl | rfl
  · intro h; exact absurd h (by rw [show Ap 94 = false from rfl]; exact Bool.false_ne_true)
  · intro h; exact absurd h (by rw [show Ap 95 = false from rfl]; exact Bool.false_ne_true))
theorem x61_94 : k_spec_l01Reader_count (e61 (2 * 94 + 1)) := by
  unfold e61
  rw [mkEnv_own (g := (runIn Try.prog e94 (c_spec_l01Reader_count 95))) (by rfl)]
  exact ko_spec_l01Reader_count x94_95
theorem x61_95 : k_spec_l01Reader_num (e61 (2 * 95 + 1)) := by
  unfold e61
  rw [mkEnv_own (g := (runIn Try.prog e95 (c_spec_l01Reader_num 118))) (by rfl)]
  exact ko_spec_l01Reader_num u95_118
theorem y61 : FunOK Try.prog 61 (runIn Try.prog e61 (c_spec_l01Reader_runs 94 95)) := runIn_ok e61_ok w61_pur (md := Md) (by kernel_rfl) (by kernel_rfl)
noncomputable def v96 (F : Fun) : Env := mkEnv [] [(96, F)]
theorem v96_ok {F : Fun} (hF : FunOK Try.prog 96 F) : EnvOK Try.prog (v96 F) := mkEnv_ok (by intro p hp; cases hp) (by
  intro p hp
  simp only [List.mem_cons, List.not_mem_nil, or_false] at hp
  subst hp
  exact hF)
theorem v96_pur {F : Fun} : ∀ c, opens Ap c = true → PurEnv (v96 F) c := mkEnv_pur _ _ (by
  intro p hp
  simp only [List.mem_cons, List.not_mem_nil, or_false] at hp
  subst hp
  intro h; exact absurd h (by rw [show Ap 96 = false from rfl]; exact Bool.false_ne_true))
noncomputable def F96 : Nat → Fun
  | 0 => fun _ _ _ => none
  | n + 1 => ownFn Try.prog (v96 (F96 n)) (c_spec_l01Put 96)
theorem FO96 : ∀ n, FunOK Try.prog 96 (F96 n)
  | 0 => by intro slot args h v h2 he; cases he
  | n + 1 => ownFn_ok (v96_ok (FO96 n)) v96_pur (md := Md) (by kernel_rfl) (by kernel_rfl)
theorem FK96 : ∀ n, kR_spec_l01Put (pN_spec_l01Put n) (F96 n)
  | 0 => by intro x0 b hb; cases hb
  | n + 1 => ko_spec_l01Put (show kR_spec_l01Put (pN_spec_l01Put n) (v96 (F96 n) (2 * 96 + 1)) from by unfold v96; rw [mkEnv_own (g := F96 n) (by rfl)]; exact FK96 n)
noncomputable def G96 : Fun := unionF F96 (fun args h p => ∀ x0 b, p_spec_l01Put x0 = some b → snapA 9 false h args = some (PicA.encA (x0)) → oo_spec_l01Put b h p.1 p.2)
theorem y96 : FunOK Try.prog 96 G96 := unionF_ok FO96
theorem GK96 : k_spec_l01Put G96 := by
  intro x0 b hb h args has
  obtain ⟨n, hn⟩ := fixP_some hb
  obtain ⟨p, h1, h2⟩ := FK96 n x0 b hn h args has
  obtain ⟨p, h3, h4⟩ := unionF_has (Q := fun args h p => ∀ x0 b, p_spec_l01Put x0 = some b → snapA 9 false h args = some (PicA.encA (x0)) → oo_spec_l01Put b h p.1 p.2) h1 (by
    intro y0 b' hb' has'
    rw [has] at has'
    have := encA_inj (Option.some.inj has')
    cases this
    rw [hb] at hb'
    cases hb'
    exact h2)
  exact ⟨p, h3, h4 x0 b hb has⟩
noncomputable def e97 : Env := mkEnv [] [(96, G96)]
theorem e97_ok : EnvOK Try.prog e97 := mkEnv_ok (by intro p hp; cases hp) (by
  intro p hp
  simp only [List.mem_cons, List.not_mem_nil, or_false] at hp
  subst hp
  exact y96)
theorem w97_pur : ∀ c, opens Ap c = true → PurEnv e97 c := mkEnv_pur _ _ (by
  intro p hp
  simp only [List.mem_cons, List.not_mem_nil, or_false] at hp
  subst hp
  intro h; exact absurd h (by rw [show Ap 96 = false from rfl]; exact Bool.false_ne_true))
theorem x97_96 : k_spec_l01Put (e97 (2 * 96 + 1)) := by
  unfold e97
  rw [mkEnv_own (g := G96) (by rfl)]
  exact GK96
theorem o97 : PureOK Try.prog 97 true (FA fun a : Int => p_spec_l01Signed a) := pure_tells e97_ok w97_pur (md := Md) (by kernel_rfl) (A := c_spec_l01Signed 96) (by kernel_rfl) (by
  rintro x b hb
  exact d_spec_l01Signed x97_96 x hb)
noncomputable def e62 : Env := mkEnv [(97, true, FA fun a : Int => p_spec_l01Signed a)] [(96, G96)]
theorem e62_ok : EnvOK Try.prog e62 := mkEnv_ok (by
  intro p hp
  simp only [List.mem_cons, List.not_mem_nil, or_false] at hp
  subst hp
  exact o97) (by
  intro p hp
  simp only [List.mem_cons, List.not_mem_nil, or_false] at hp
  subst hp
  exact y96)
theorem w62_pur : ∀ c, opens Ap c = true → PurEnv e62 c := mkEnv_pur _ _ (by
  intro p hp
  simp only [List.mem_cons, List.not_mem_nil, or_false] at hp
  subst hp
  intro h; exact absurd h (by rw [show Ap 96 = false from rfl]; exact Bool.false_ne_true))
theorem u62_97 : e62 (2 * 97) = pureFn true (FA fun a : Int => p_spec_l01Signed a) := by
  unfold e62
  exact mkEnv_at (by rfl)
theorem x62_96 : k_spec_l01Put (e62 (2 * 96 + 1)) := by
  unfold e62
  rw [mkEnv_own (g := G96) (by rfl)]
  exact GK96
theorem y62 : FunOK Try.prog 62 (ownFn Try.prog e62 (c_spec_l01PutRuns 96 97)) := ownFn_ok e62_ok w62_pur (md := Md) (by kernel_rfl) (by kernel_rfl)
noncomputable def e16 : Env := mkEnv [] [(61, (runIn Try.prog e61 (c_spec_l01Reader_runs 94 95))), (62, (ownFn Try.prog e62 (c_spec_l01PutRuns 96 97)))]
theorem e16_ok : EnvOK Try.prog e16 := mkEnv_ok (by intro p hp; cases hp) (by
  intro p hp
  simp only [List.mem_cons, List.not_mem_nil, or_false] at hp
  rcases hp with rfl | rfl
  · exact y61
  · exact y62)
theorem w16_pur : ∀ c, opens Ap c = true → PurEnv e16 c := mkEnv_pur _ _ (by
  intro p hp
  simp only [List.mem_cons, List.not_mem_nil, or_false] at hp
  rcases hp with rfl | rfl
  · intro h; exact absurd h (by rw [show Ap 61 = false from rfl]; exact Bool.false_ne_true)
  · intro _; exact ownFn_app)
theorem x16_61 : k_spec_l01Reader_runs (e16 (2 * 61 + 1)) := by
  unfold e16
  rw [mkEnv_own (g := (runIn Try.prog e61 (c_spec_l01Reader_runs 94 95))) (by rfl)]
  exact ko_spec_l01Reader_runs x61_94 x61_95
theorem x16_62 : k_spec_l01PutRuns (e16 (2 * 62 + 1)) := by
  unfold e16
  rw [mkEnv_own (g := (ownFn Try.prog e62 (c_spec_l01PutRuns 96 97))) (by rfl)]
  exact ko_spec_l01PutRuns u62_97 x62_96
theorem o16 : PureOK Try.prog 16 true (FA fun a : List U8 => p_spec_GetRuns a) := pure_tells e16_ok w16_pur (md := Md) (by kernel_rfl) (A := c_spec_GetRuns 61 62) (by kernel_rfl) (by
  rintro x b hb
  exact d_spec_GetRuns x16_61 x16_62 x hb)
noncomputable def e98 : Env := mkEnv [] []
theorem e98_ok : EnvOK Try.prog e98 := mkEnv_ok (by intro p hp; cases hp) (by intro p hp; cases hp)
theorem w98_pur : ∀ c, opens Ap c = true → PurEnv e98 c := mkEnv_pur _ _ (by intro p hp; cases hp)
theorem y98 : FunOK Try.prog 98 (runIn Try.prog e98 (c_impl_reader_num)) := runIn_ok e98_ok w98_pur (md := Md) (by kernel_rfl) (by kernel_rfl)
noncomputable def e99 : Env := mkEnv [] []
theorem e99_ok : EnvOK Try.prog e99 := mkEnv_ok (by intro p hp; cases hp) (by intro p hp; cases hp)
theorem w99_pur : ∀ c, opens Ap c = true → PurEnv e99 c := mkEnv_pur _ _ (by intro p hp; cases hp)
theorem o99 : PureOK Try.prog 99 true (FA fun a : Int => p_impl_zag a) := pure_tells e99_ok w99_pur (md := Md) (by kernel_rfl) (A := c_impl_zag) (by kernel_rfl) (by
  rintro x b hb
  exact d_impl_zag x hb)
noncomputable def e119 : Env := mkEnv [] []
theorem e119_ok : EnvOK Try.prog e119 := mkEnv_ok (by intro p hp; cases hp) (by intro p hp; cases hp)
theorem w119_pur : ∀ c, opens Ap c = true → PurEnv e119 c := mkEnv_pur _ _ (by intro p hp; cases hp)
theorem y119 : FunOK Try.prog 119 (runIn Try.prog e119 (c_impl_appendInt)) := runIn_ok e119_ok w119_pur (md := Md) (by kernel_rfl) (by kernel_rfl)
noncomputable def e120 : Env := mkEnv [] []
theorem e120_ok : EnvOK Try.prog e120 := mkEnv_ok (by intro p hp; cases hp) (by intro p hp; cases hp)
theorem w120_pur : ∀ c, opens Ap c = true → PurEnv e120 c := mkEnv_pur _ _ (by intro p hp; cases hp)
theorem o120 : PureOK Try.prog 120 true (FA fun a : List Int × Int => p_impl_runLen a.1 a.2) := pure_tells e120_ok w120_pur (md := Md) (by kernel_rfl) (A := c_impl_runLen) (by kernel_rfl) (by
  rintro ⟨x, y⟩ b hb
  exact d_impl_runLen x y hb)
noncomputable def e121 : Env := mkEnv [] []
theorem e121_ok : EnvOK Try.prog e121 := mkEnv_ok (by intro p hp; cases hp) (by intro p hp; cases hp)
theorem w121_pur : ∀ c, opens Ap c = true → PurEnv e121 c := mkEnv_pur _ _ (by intro p hp; cases hp)
theorem o121 : PureOK Try.prog 121 true (FA fun a : Int => p_impl_zig a) := pure_tells e121_ok w121_pur (md := Md) (by kernel_rfl) (A := c_impl_zig) (by kernel_rfl) (by
  rintro x b hb
  exact d_impl_zig x hb)
noncomputable def e100 : Env := mkEnv [(120, true, FA fun a : List Int × Int => p_impl_runLen a.1 a.2), (121, true, FA fun a : Int => p_impl_zig a)] [(119, (runIn Try.prog e119 (c_impl_appendInt)))]
theorem e100_ok : EnvOK Try.prog e100 := mkEnv_ok (by
  intro p hp
  simp only [List.mem_cons, List.not_mem_nil, or_false] at hp
  rcases hp with rfl | rfl
  · exact o120
  · exact o121) (by
  intro p hp
  simp only [List.mem_cons, List.not_mem_nil, or_false] at hp
  subst hp
  exact y119)
theorem w100_pur : ∀ c, opens Ap c = true → PurEnv e100 c := mkEnv_pur _ _ (by
  intro p hp
  simp only [List.mem_cons, List.not_mem_nil, or_false] at hp
  subst hp
  intro h; exact absurd h (by rw [show Ap 119 = false from rfl]; exact Bool.false_ne_true))
theorem u100_120 : e100 (2 * 120) = pureFn true (FA fun a : List Int × Int => p_impl_runLen a.1 a.2) := by
  unfold e100
  exact mkEnv_at (by rfl)
theorem u100_121 : e100 (2 * 121) = pureFn true (FA fun a : Int => p_impl_zig a) := by
  unfold e100
  exact mkEnv_at (by rfl)
theorem x100_119 : k_impl_appendInt (e100 (2 * 119 + 1)) := by
  unfold e100
  rw [mkEnv_own (g := (runIn Try.prog e119 (c_impl_appendInt))) (by rfl)]
  exact ko_impl_appendInt
theorem y100 : FunOK Try.prog 100 (ownFn Try.prog e100 (c_impl_appendRuns 119 120 121)) := ownFn_ok e100_ok w100_pur (md := Md) (by kernel_rfl) (by kernel_rfl)
noncomputable def e63 : Env := mkEnv [(99, true, FA fun a : Int => p_impl_zag a)] [(98, (runIn Try.prog e98 (c_impl_reader_num))), (100, (ownFn Try.prog e100 (c_impl_appendRuns 119 120 121)))]
theorem e63_ok : EnvOK Try.prog e63 := mkEnv_ok (by
  intro p hp
  simp only [List.mem_cons, List.not_mem_nil, or_false] at hp
  subst hp
  exact o99) (by
  intro p hp
  simp only [List.mem_cons, List.not_mem_nil, or_false] at hp
  rcases hp with rfl | rfl
  · exact y98
  · exact y100)
theorem w63_pur : ∀ c, opens Ap c = true → PurEnv e63 c := mkEnv_pur _ _ (by
  intro p hp
  simp only [List.mem_cons, List.not_mem_nil, or_false] at hp
  rcases hp with rfl | rfl
  · intro h; exact absurd h (by rw [show Ap 98 = false from rfl]; exact Bool.false_ne_true)
  · intro _; exact ownFn_app)
theorem u63_99 : e63 (2 * 99) = pureFn true (FA fun a : Int => p_impl_zag a) := by
  unfold e63
  exact mkEnv_at (by rfl)
theorem x63_98 : k_impl_reader_num (e63 (2 * 98 + 1)) := by
  unfold e63
  rw [mkEnv_own (g := (runIn Try.prog e98 (c_impl_reader_num))) (by rfl)]
  exact ko_impl_reader_num
theorem x63_100 : k_impl_appendRuns (e63 (2 * 100 + 1)) := by
  unfold e63
  rw [mkEnv_own (g := (ownFn Try.prog e100 (c_impl_appendRuns 119 120 121))) (by rfl)]
  exact ko_impl_appendRuns u100_120 u100_121 x100_119
theorem y63 : FunOK Try.prog 63 (runIn Try.prog e63 (c_impl_reader_runs 98 99 100)) := runIn_ok e63_ok w63_pur (md := Md) (by kernel_rfl) (by kernel_rfl)
noncomputable def e18 : Env := mkEnv [] [(63, (runIn Try.prog e63 (c_impl_reader_runs 98 99 100)))]
theorem e18_ok : EnvOK Try.prog e18 := mkEnv_ok (by intro p hp; cases hp) (by
  intro p hp
  simp only [List.mem_cons, List.not_mem_nil, or_false] at hp
  subst hp
  exact y63)
theorem w18_pur : ∀ c, opens Ap c = true → PurEnv e18 c := mkEnv_pur _ _ (by
  intro p hp
  simp only [List.mem_cons, List.not_mem_nil, or_false] at hp
  subst hp
  intro h; exact absurd h (by rw [show Ap 63 = false from rfl]; exact Bool.false_ne_true))
theorem x18_63 : k_impl_reader_runs (e18 (2 * 63 + 1)) := by
  unfold e18
  rw [mkEnv_own (g := (runIn Try.prog e63 (c_impl_reader_runs 98 99 100))) (by rfl)]
  exact ko_impl_reader_runs u63_99 x63_98 x63_100
theorem y18 : FunOK Try.prog 18 (ownFn Try.prog e18 (c_impl_GetRuns 63)) := ownFn_ok e18_ok w18_pur (md := Md) (by kernel_rfl) (by kernel_rfl)
noncomputable def e19 : Env := mkEnv [] []
theorem e19_ok : EnvOK Try.prog e19 := mkEnv_ok (by intro p hp; cases hp) (by intro p hp; cases hp)
theorem w19_pur : ∀ c, opens Ap c = true → PurEnv e19 c := mkEnv_pur _ _ (by intro p hp; cases hp)
theorem o19 : PureOK Try.prog 19 true (FA fun a : List Int × List Int => p_laws_eqIntS a.1 a.2) := pure_tells e19_ok w19_pur (md := Md) (by kernel_rfl) (A := c_laws_eqIntS) (by kernel_rfl) (by
  rintro ⟨x, y⟩ b hb
  exact d_laws_eqIntS x y hb)
noncomputable def e20 : Env := mkEnv [] []
theorem e20_ok : EnvOK Try.prog e20 := mkEnv_ok (by intro p hp; cases hp) (by intro p hp; cases hp)
theorem w20_pur : ∀ c, opens Ap c = true → PurEnv e20 c := mkEnv_pur _ _ (by intro p hp; cases hp)
theorem o20 : PureOK Try.prog 20 true (FA fun a : List U8 × List U8 => p_laws_eqByteS a.1 a.2) := pure_tells e20_ok w20_pur (md := Md) (by kernel_rfl) (A := c_laws_eqByteS) (by kernel_rfl) (by
  rintro ⟨x, y⟩ b hb
  exact d_laws_eqByteS x y hb)
noncomputable def e21 : Env := mkEnv [] []
theorem e21_ok : EnvOK Try.prog e21 := mkEnv_ok (by intro p hp; cases hp) (by intro p hp; cases hp)
theorem w21_pur : ∀ c, opens Ap c = true → PurEnv e21 c := mkEnv_pur _ _ (by intro p hp; cases hp)
theorem y21 : FunOK Try.prog 21 (runIn Try.prog e21 (c_laws_markByteS)) := runIn_ok e21_ok w21_pur (md := Md) (by kernel_rfl) (by kernel_rfl)
noncomputable def e22 : Env := mkEnv [] []
theorem e22_ok : EnvOK Try.prog e22 := mkEnv_ok (by intro p hp; cases hp) (by intro p hp; cases hp)
theorem w22_pur : ∀ c, opens Ap c = true → PurEnv e22 c := mkEnv_pur _ _ (by intro p hp; cases hp)
theorem y22 : FunOK Try.prog 22 (runIn Try.prog e22 (c_laws_markIntS)) := runIn_ok e22_ok w22_pur (md := Md) (by kernel_rfl) (by kernel_rfl)
noncomputable def e23 : Env := mkEnv [] []
theorem e23_ok : EnvOK Try.prog e23 := mkEnv_ok (by intro p hp; cases hp) (by intro p hp; cases hp)
theorem w23_pur : ∀ c, opens Ap c = true → PurEnv e23 c := mkEnv_pur _ _ (by intro p hp; cases hp)
theorem o23 : PureOK Try.prog 23 true (FA fun a : List Int × Int => p_laws_heldIntS a.1 a.2) := pure_tells e23_ok w23_pur (md := Md) (by kernel_rfl) (A := c_laws_heldIntS) (by kernel_rfl) (by
  rintro ⟨x, y⟩ b hb
  exact d_laws_heldIntS x y hb)
noncomputable def e4 : Env := mkEnv [(17, true, FA fun a : List U8 => p_laws_toByteS a), (16, true, FA fun a : List U8 => p_spec_GetRuns a), (19, true, FA fun a : List Int × List Int => p_laws_eqIntS a.1 a.2), (20, true, FA fun a : List U8 × List U8 => p_laws_eqByteS a.1 a.2), (23, true, FA fun a : List Int × Int => p_laws_heldIntS a.1 a.2)] [(17, (ownFn Try.prog e17 (c_laws_toByteS))), (18, (ownFn Try.prog e18 (c_impl_GetRuns 63))), (21, (runIn Try.prog e21 (c_laws_markByteS))), (22, (runIn Try.prog e22 (c_laws_markIntS)))]
theorem e4_ok : EnvOK Try.prog e4 := mkEnv_ok (by
  intro p hp
  simp only [List.mem_cons, List.not_mem_nil, or_false] at hp
  rcases hp with rfl | rfl | rfl | rfl | rfl
  · exact o17
  · exact o16
  · exact o19
  · exact o20
  · exact o23) (by
  intro p hp
  simp only [List.mem_cons, List.not_mem_nil, or_false] at hp
  rcases hp with rfl | rfl | rfl | rfl
  · exact y17
  · exact y18
  · exact y21
  · exact y22)
theorem w4_pur : ∀ c, opens ApL c = true → PurEnv e4 c := mkEnv_pur _ _ (by
  intro p hp
  simp only [List.mem_cons, List.not_mem_nil, or_false] at hp
  rcases hp with rfl | rfl | rfl | rfl
  · intro h; exact absurd h (by rw [show ApL 17 = false from rfl]; exact Bool.false_ne_true)
  · intro h; exact absurd h (by rw [show ApL 18 = false from rfl]; exact Bool.false_ne_true)
  · intro h; exact absurd h (by rw [show ApL 21 = false from rfl]; exact Bool.false_ne_true)
  · intro h; exact absurd h (by rw [show ApL 22 = false from rfl]; exact Bool.false_ne_true))
theorem u4_17 : e4 (2 * 17) = pureFn true (FA fun a : List U8 => p_laws_toByteS a) := by
  unfold e4
  exact mkEnv_at (by rfl)
theorem u4_16 : e4 (2 * 16) = pureFn true (FA fun a : List U8 => p_spec_GetRuns a) := by
  unfold e4
  exact mkEnv_at (by rfl)
theorem u4_19 : e4 (2 * 19) = pureFn true (FA fun a : List Int × List Int => p_laws_eqIntS a.1 a.2) := by
  unfold e4
  exact mkEnv_at (by rfl)
theorem u4_20 : e4 (2 * 20) = pureFn true (FA fun a : List U8 × List U8 => p_laws_eqByteS a.1 a.2) := by
  unfold e4
  exact mkEnv_at (by rfl)
theorem u4_23 : e4 (2 * 23) = pureFn true (FA fun a : List Int × Int => p_laws_heldIntS a.1 a.2) := by
  unfold e4
  exact mkEnv_at (by rfl)
theorem x4_17 : k_laws_toByteS (e4 (2 * 17 + 1)) := by
  unfold e4
  rw [mkEnv_own (g := (ownFn Try.prog e17 (c_laws_toByteS))) (by rfl)]
  exact ko_laws_toByteS
theorem x4_18 : k_impl_GetRuns (e4 (2 * 18 + 1)) := by
  unfold e4
  rw [mkEnv_own (g := (ownFn Try.prog e18 (c_impl_GetRuns 63))) (by rfl)]
  exact ko_impl_GetRuns x18_63
theorem x4_21 : k_laws_markByteS (e4 (2 * 21 + 1)) := by
  unfold e4
  rw [mkEnv_own (g := (runIn Try.prog e21 (c_laws_markByteS))) (by rfl)]
  exact ko_laws_markByteS
theorem x4_22 : k_laws_markIntS (e4 (2 * 22 + 1)) := by
  unfold e4
  rw [mkEnv_own (g := (runIn Try.prog e22 (c_laws_markIntS))) (by rfl)]
  exact ko_laws_markIntS
theorem law : LawOK Try.prog 4 [.sl 1 (.int .u8)] := law_of_run e4_ok w4_pur (md := MdL) (A := c_laws_FnExactGetRuns 17 16 18 19 20 21 22 23) (by kernel_rfl) (by
  intro xs hx
  cases hx with
  | cons h0 hx =>
  cases hx
  obtain ⟨a0, rfl, k0⟩ := fit_sl (α := U8) rfl (fun x hx => fit_u8 hx) h0
  exact d_laws_FnExactGetRuns u4_17 u4_16 u4_19 u4_20 u4_23 x4_17 x4_18 x4_21 x4_22 a0 (plain_GetRuns a0 k0))
theorem own : ownKnob Try.prog.godebug = none := by kernel_rfl
theorem laidOut : laidOutB Try.prog = true := by kernel_rfl
set_option maxRecDepth 100000 in
theorem lifted (os : Os) (started : os.Started) (H : Type) (enc : TypeId × Value → H) :
    ReturnsInHanded {} Try.checked os 4 .any (Rows.fnExactGetRunsSpec.pre6 enc Try.prog Try.f4 Rows.fnExactGetRunsRow.domain false) (Rows.fnExactGetRunsSpec.post enc Try.prog Try.f4 false true false false) := by
  refine returnsInHanded_of_change_sized (C := Try.checked) own started (by kernel_rfl) Try.func4
    (ChangeSpec.witness6 (enc := enc) (C := Try.checked) false ⟨#[], #[.slice none 0 0], []⟩ 8 (by kernel_rfl) (by kernel_rfl) (by kernel_rfl) (by kernel_rfl)) ?_
  intro W base args ds gs before hval hW hcnd hsz _
  refine law_contract (n := 8) (tb := 4) (shs := [.sl 1 (.int .u8)]) laidOut rfl ?_ (by kernel_rfl) Try.underlying4 (by kernel_rfl) (by kernel_rfl) law W base args ds gs before hval hW hsz
  intro ds hds
  have h1 : ds.length = 1 := hds
  match ds, h1 with
  | [d0], _ => rfl
theorem over : Rows.fnExactGetRunsRow.holds Try.pinned (OpenSpec.ofChange Rows.fnExactGetRunsSpec) :=
  OpenClaim.holds_of_wide 4 Try.f4 rfl rfl rfl rfl rfl rfl rfl ⟨rfl, rfl, rfl, rfl, rfl⟩ rfl rfl rfl rfl rfl (by kernel_rfl) Try.func4 (by kernel_rfl)
    (of_decide_eq_true (by kernel_rfl)) (by unfold Func.isWrapper; first | (rw [if_pos (by decide +kernel)]; kernel_rfl) | (rw [if_neg (by decide +kernel)]; exact ⟨rfl, rfl⟩))
    (fun os started H enc _ => lifted os started H enc)
theorem proved : Rows.FnExactGetRunsSaid := over
#print axioms proved
end Go.Proofs.Ytogokiglmhnjkaa.RFnExactGetRuns
namespace Go.Proofs.Ytogokiglmhnjkaa
/-- The row, under a short name, for the claim. -/
theorem fnExactGetRuns_holds : Rows.FnExactGetRunsSaid := RFnExactGetRuns.proved
end Go.Proofs.Ytogokiglmhnjkaa
