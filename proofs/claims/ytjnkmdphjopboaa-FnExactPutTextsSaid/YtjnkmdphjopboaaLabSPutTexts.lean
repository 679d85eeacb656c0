/- The law FnExactPutTexts: its functions' contracts, its run, its row. No condition. -/
import Derived.Test.YtjnkmdphjopboaaRows
import Derived.Test.YtjnkmdphjopboaaLabPPutTexts
import Derived.WalkKit
import Derived.ProofKit
set_option linter.unusedVariables false
namespace Go.Proofs.Ytjnkmdphjopboaa.RFnExactPutTexts
open Go.AM
open Pic (enc dec dec_enc dec_sub)
def Md : Modes := fun f => if f == 16 then 4 else if f == 17 then 1 else if f == 21 then 4 else if f == 22 then 1 else if f == 23 then 1 else if f == 25 then 2 else if f == 27 then 4 else if f == 28 then 1 else if f == 29 then 1 else if f == 32 then 2 else if f == 33 then 2 else if f == 35 then 4 else if f == 36 then 1 else if f == 37 then 4 else if f == 38 then 1 else if f == 39 then 2 else if f == 42 then 4 else if f == 43 then 1 else if f == 44 then 1 else if f == 46 then 2 else if f == 48 then 4 else if f == 49 then 1 else if f == 50 then 1 else if f == 52 then 2 else if f == 54 then 4 else if f == 55 then 1 else if f == 56 then 4 else if f == 57 then 1 else if f == 58 then 1 else if f == 59 then 4 else if f == 60 then 1 else if f == 61 then 4 else if f == 62 then 1 else if f == 65 then 4 else if f == 66 then 1 else if f == 67 then 1 else if f == 69 then 2 else if f == 74 then 4 else if f == 77 then 1 else if f == 79 then 1 else if f == 80 then 2 else if f == 81 then 1 else if f == 82 then 2 else if f == 83 then 1 else if f == 84 then 2 else if f == 91 then 1 else if f == 93 then 1 else if f == 94 then 1 else if f == 95 then 2 else if f == 96 then 2 else if f == 98 then 1 else if f == 99 then 2 else if f == 100 then 2 else if f == 104 then 1 else if f == 106 then 1 else if f == 108 then 2 else if f == 110 then 1 else if f == 119 then 2 else if f == 122 then 4 else if f == 123 then 4 else 0
def Ap : Nat → Bool := fun f => Md f == 1
def MdL : Modes := fun f => if Md f == 1 then 3 else Md f
def ApL : Nat → Bool := fun f => MdL f == 1
noncomputable def e41 : Env := mkEnv [] []
theorem e41_ok : EnvOK Try.prog e41 := mkEnv_ok (by intro p hp; cases hp) (by intro p hp; cases hp)
theorem w41_pur : ∀ c, opens Ap c = true → PurEnv e41 c := mkEnv_pur _ _ (by intro p hp; cases hp)
theorem o41 : PureOK Try.prog 41 true (FA fun a : List ByteArray × Int => p_laws_szStringS a.1 a.2) := pure_tells e41_ok w41_pur (md := Md) (by kernel_rfl) (A := c_laws_szStringS) (by kernel_rfl) (by
  rintro ⟨x, y⟩ b hb
  exact d_laws_szStringS x y hb)
noncomputable def e43 : Env := mkEnv [] []
theorem e43_ok : EnvOK Try.prog e43 := mkEnv_ok (by intro p hp; cases hp) (by intro p hp; cases hp)
theorem w43_pur : ∀ c, opens Ap c = true → PurEnv e43 c := mkEnv_pur _ _ (by intro p hp; cases hp)
theorem o43 : PureOK Try.prog 43 true (FA fun a : List ByteArray => p_laws_toStringS a) := pure_tells e43_ok w43_pur (md := Md) (by kernel_rfl) (A := c_laws_toStringS) (by kernel_rfl) (by
  rintro x b hb
  exact d_laws_toStringS x hb)
theorem y43 : FunOK Try.prog 43 (ownFn Try.prog e43 (c_laws_toStringS)) := ownFn_ok e43_ok w43_pur (md := Md) (by kernel_rfl) (by kernel_rfl)
noncomputable def v110 (F : Fun) : Env := mkEnv [] [(110, F)]
theorem v110_ok {F : Fun} (hF : FunOK Try.prog 110 F) : EnvOK Try.prog (v110 F) := mkEnv_ok (by intro p hp; cases hp) (by
  intro p hp
  simp only [List.mem_cons, List.not_mem_nil, or_false] at hp
  subst hp
  exact hF)
theorem v110_pur {F : Fun} (hF : Appends F) : ∀ c, opens Ap c = true → PurEnv (v110 F) c := mkEnv_pur _ _ (by
  intro p hp
  simp only [List.mem_cons, List.not_mem_nil, or_false] at hp
  subst hp
  intro _; exact hF)
noncomputable def F110 : Nat → Fun
  | 0 => fun _ _ _ => none
  | n + 1 => ownFn Try.prog (v110 (F110 n)) (c_spec_l01Put 110)
theorem FA110 : ∀ n, Appends (F110 n)
  | 0 => by intro slot args h v h2 he; cases he
  | n + 1 => ownFn_app
theorem FO110 : ∀ n, FunOK Try.prog 110 (F110 n)
  | 0 => by intro slot args h v h2 he; cases he
  | n + 1 => ownFn_ok (v110_ok (FO110 n)) (v110_pur (FA110 n)) (md := Md) (by kernel_rfl) (by kernel_rfl)
theorem FK110 : ∀ n, kR_spec_l01Put (pN_spec_l01Put n) (F110 n)
  | 0 => by intro x0 b hb; cases hb
  | n + 1 => ko_spec_l01Put (show kR_spec_l01Put (pN_spec_l01Put n) (v110 (F110 n) (2 * 110 + 1)) from by unfold v110; rw [mkEnv_own (g := F110 n) (by rfl)]; exact FK110 n)
noncomputable def G110 : Fun := unionF F110 (fun args h p => ∀ x0 b, p_spec_l01Put x0 = some b → snapA 9 false h args = some (PicA.encA (x0)) → oo_spec_l01Put b h p.1 p.2)
theorem y110 : FunOK Try.prog 110 G110 := unionF_ok FO110
theorem GA110 : Appends G110 := unionF_app FA110
theorem GK110 : k_spec_l01Put G110 := by
  intro x0 b hb h args has
  obtain ⟨n, hn⟩ := fixP_some hb
  obtain ⟨p, h1, h2⟩ := FK110 n x0 b hn h args has
  obtain ⟨p, h3, h4⟩ := unionF_has (Q := fun args h p => ∀ x0 b, p_spec_l01Put x0 = some b → snapA 9 false h args = some (PicA.encA (x0)) → oo_spec_l01Put b h p.1 p.2) h1 (by
    intro y0 b' hb' has'
    rw [has] at has'
    have := encA_inj (Option.some.inj has')
    cases this
    rw [hb] at hb'
    cases hb'
    exact h2)
  exact ⟨p, h3, h4 x0 b hb has⟩
noncomputable def e114 : Env := mkEnv [] []
theorem e114_ok : EnvOK Try.prog e114 := mkEnv_ok (by intro p hp; cases hp) (by intro p hp; cases hp)
theorem w114_pur : ∀ c, opens Ap c = true → PurEnv e114 c := mkEnv_pur _ _ (by intro p hp; cases hp)
theorem o114 : PureOK Try.prog 114 true (FA fun a : ByteArray × ByteArray => p_spec_l01Alike a.1 a.2) := pure_tells e114_ok w114_pur (md := Md) (by kernel_rfl) (A := c_spec_l01Alike) (by kernel_rfl) (by
  rintro ⟨x, y⟩ b hb
  exact d_spec_l01Alike x y hb)
noncomputable def e83 : Env := mkEnv [(114, true, FA fun a : ByteArray × ByteArray => p_spec_l01Alike a.1 a.2)] [(110, G110)]
theorem e83_ok : EnvOK Try.prog e83 := mkEnv_ok (by
  intro p hp
  simp only [List.mem_cons, List.not_mem_nil, or_false] at hp
  subst hp
  exact o114) (by
  intro p hp
  simp only [List.mem_cons, List.not_mem_nil, or_false] at hp
  subst hp
  exact y110)
theorem w83_pur : ∀ c, opens Ap c = true → PurEnv e83 c := mkEnv_pur _ _ (by
  intro p hp
  simp only [List.mem_cons, List.not_mem_nil, or_false] at hp
  subst hp
  intro _; exact GA110)
theorem u83_114 : e83 (2 * 114) = pureFn true (FA fun a : ByteArray × ByteArray => p_spec_l01Alike a.1 a.2) := by
  unfold e83
  exact mkEnv_at (by rfl)
theorem x83_110 : k_spec_l01Put (e83 (2 * 110 + 1)) := by
  unfold e83
  rw [mkEnv_own (g := G110) (by rfl)]
  exact GK110
theorem y83 : FunOK Try.prog 83 (ownFn Try.prog e83 (c_spec_l01PutTexts 110 114)) := ownFn_ok e83_ok w83_pur (md := Md) (by kernel_rfl) (by kernel_rfl)
noncomputable def e42 : Env := mkEnv [] [(83, (ownFn Try.prog e83 (c_spec_l01PutTexts 110 114)))]
theorem e42_ok : EnvOK Try.prog e42 := mkEnv_ok (by intro p hp; cases hp) (by
  intro p hp
  simp only [List.mem_cons, List.not_mem_nil, or_false] at hp
  subst hp
  exact y83)
theorem w42_pur : ∀ c, opens Ap c = true → PurEnv e42 c := mkEnv_pur _ _ (by
  intro p hp
  simp only [List.mem_cons, List.not_mem_nil, or_false] at hp
  subst hp
  intro _; exact ownFn_app)
theorem x42_83 : k_spec_l01PutTexts (e42 (2 * 83 + 1)) := by
  unfold e42
  rw [mkEnv_own (g := (ownFn Try.prog e83 (c_spec_l01PutTexts 110 114))) (by rfl)]
  exact ko_spec_l01PutTexts u83_114 x83_110
theorem o42 : PureOK Try.prog 42 true (FA fun a : List ByteArray => p_spec_PutTexts a) := pure_tells e42_ok w42_pur (md := Md) (by kernel_rfl) (A := c_spec_PutTexts 83) (by kernel_rfl) (by
  rintro x b hb
  exact d_spec_PutTexts x42_83 x hb)
noncomputable def e82 : Env := mkEnv [] []
theorem e82_ok : EnvOK Try.prog e82 := mkEnv_ok (by intro p hp; cases hp) (by intro p hp; cases hp)
theorem w82_pur : ∀ c, opens Ap c = true → PurEnv e82 c := mkEnv_pur _ _ (by intro p hp; cases hp)
theorem y82 : FunOK Try.prog 82 (runIn Try.prog e82 (c_impl_appendInt)) := runIn_ok e82_ok w82_pur (md := Md) (by kernel_rfl) (by kernel_rfl)
noncomputable def e115 : Env := mkEnv [] []
theorem e115_ok : EnvOK Try.prog e115 := mkEnv_ok (by intro p hp; cases hp) (by intro p hp; cases hp)
theorem w115_pur : ∀ c, opens Ap c = true → PurEnv e115 c := mkEnv_pur _ _ (by intro p hp; cases hp)
theorem o115 : PureOK Try.prog 115 true (FA fun a : ByteArray × ByteArray => p_impl_common a.1 a.2) := pure_tells e115_ok w115_pur (md := Md) (by kernel_rfl) (A := c_impl_common) (by kernel_rfl) (by
  rintro ⟨x, y⟩ b hb
  exact d_impl_common x y hb)
noncomputable def e84 : Env := mkEnv [(115, true, FA fun a : ByteArray × ByteArray => p_impl_common a.1 a.2)] [(82, (runIn Try.prog e82 (c_impl_appendInt)))]
theorem e84_ok : EnvOK Try.prog e84 := mkEnv_ok (by
  intro p hp
  simp only [List.mem_cons, List.not_mem_nil, or_false] at hp
  subst hp
  exact o115) (by
  intro p hp
  simp only [List.mem_cons, List.not_mem_nil, or_false] at hp
  subst hp
  exact y82)
theorem w84_pur : ∀ c, opens Ap c = true → PurEnv e84 c := mkEnv_pur _ _ (by
  intro p hp
  simp only [List.mem_cons, List.not_mem_nil, or_false] at hp
  subst hp
  intro h; exact absurd h (by rw [show Ap 82 = false from rfl]; exact Bool.false_ne_true))
theorem u84_115 : e84 (2 * 115) = pureFn true (FA fun a : ByteArray × ByteArray => p_impl_common a.1 a.2) := by
  unfold e84
  exact mkEnv_at (by rfl)
theorem x84_82 : k_impl_appendInt (e84 (2 * 82 + 1)) := by
  unfold e84
  rw [mkEnv_own (g := (runIn Try.prog e82 (c_impl_appendInt))) (by rfl)]
  exact ko_impl_appendInt
theorem y84 : FunOK Try.prog 84 (runIn Try.prog e84 (c_impl_appendTexts 82 115)) := runIn_ok e84_ok w84_pur (md := Md) (by kernel_rfl) (by kernel_rfl)
noncomputable def e44 : Env := mkEnv [] [(84, (runIn Try.prog e84 (c_impl_appendTexts 82 115)))]
theorem e44_ok : EnvOK Try.prog e44 := mkEnv_ok (by intro p hp; cases hp) (by
  intro p hp
  simp only [List.mem_cons, List.not_mem_nil, or_false] at hp
  subst hp
  exact y84)
theorem w44_pur : ∀ c, opens Ap c = true → PurEnv e44 c := mkEnv_pur _ _ (by
  intro p hp
  simp only [List.mem_cons, List.not_mem_nil, or_false] at hp
  subst hp
  intro h; exact absurd h (by rw [show Ap 84 = false from rfl]; exact Bool.false_ne_true))
theorem x44_84 : k_impl_appendTexts (e44 (2 * 84 + 1)) := by
  unfold e44
  rw [mkEnv_own (g := (runIn Try.prog e84 (c_impl_appendTexts 82 115))) (by rfl)]
  exact ko_impl_appendTexts u84_115 x84_82
theorem y44 : FunOK Try.prog 44 (ownFn Try.prog e44 (c_impl_PutTexts 84)) := ownFn_ok e44_ok w44_pur (md := Md) (by kernel_rfl) (by kernel_rfl)
noncomputable def e30 : Env := mkEnv [] []
theorem e30_ok : EnvOK Try.prog e30 := mkEnv_ok (by intro p hp; cases hp) (by intro p hp; cases hp)
theorem w30_pur : ∀ c, opens Ap c = true → PurEnv e30 c := mkEnv_pur _ _ (by intro p hp; cases hp)
theorem o30 : PureOK Try.prog 30 true (FA fun a : List U8 × List U8 => p_laws_eqByteS a.1 a.2) := pure_tells e30_ok w30_pur (md := Md) (by kernel_rfl) (A := c_laws_eqByteS) (by kernel_rfl) (by
  rintro ⟨x, y⟩ b hb
  exact d_laws_eqByteS x y hb)
noncomputable def e45 : Env := mkEnv [] []
theorem e45_ok : EnvOK Try.prog e45 := mkEnv_ok (by intro p hp; cases hp) (by intro p hp; cases hp)
theorem w45_pur : ∀ c, opens Ap c = true → PurEnv e45 c := mkEnv_pur _ _ (by intro p hp; cases hp)
theorem o45 : PureOK Try.prog 45 true (FA fun a : List ByteArray × List ByteArray => p_laws_eqStringS a.1 a.2) := pure_tells e45_ok w45_pur (md := Md) (by kernel_rfl) (A := c_laws_eqStringS) (by kernel_rfl) (by
  rintro ⟨x, y⟩ b hb
  exact d_laws_eqStringS x y hb)
noncomputable def e85 : Env := mkEnv [] []
theorem e85_ok : EnvOK Try.prog e85 := mkEnv_ok (by intro p hp; cases hp) (by intro p hp; cases hp)
theorem w85_pur : ∀ c, opens Ap c = true → PurEnv e85 c := mkEnv_pur _ _ (by intro p hp; cases hp)
theorem o85 : PureOK Try.prog 85 true (FA fun a : Int => p_laws_markText a) := pure_tells e85_ok w85_pur (md := Md) (by kernel_rfl) (A := c_laws_markText) (by kernel_rfl) (by
  rintro x b hb
  exact d_laws_markText x hb)
noncomputable def e46 : Env := mkEnv [(85, true, FA fun a : Int => p_laws_markText a)] []
theorem e46_ok : EnvOK Try.prog e46 := mkEnv_ok (by
  intro p hp
  simp only [List.mem_cons, List.not_mem_nil, or_false] at hp
  subst hp
  exact o85) (by intro p hp; cases hp)
theorem w46_pur : ∀ c, opens Ap c = true → PurEnv e46 c := mkEnv_pur _ _ (by intro p hp; cases hp)
theorem u46_85 : e46 (2 * 85) = pureFn true (FA fun a : Int => p_laws_markText a) := by
  unfold e46
  exact mkEnv_at (by rfl)
theorem y46 : FunOK Try.prog 46 (runIn Try.prog e46 (c_laws_markStringS 85)) := runIn_ok e46_ok w46_pur (md := Md) (by kernel_rfl) (by kernel_rfl)
noncomputable def e33 : Env := mkEnv [] []
theorem e33_ok : EnvOK Try.prog e33 := mkEnv_ok (by intro p hp; cases hp) (by intro p hp; cases hp)
theorem w33_pur : ∀ c, opens Ap c = true → PurEnv e33 c := mkEnv_pur _ _ (by intro p hp; cases hp)
theorem y33 : FunOK Try.prog 33 (runIn Try.prog e33 (c_laws_markByteS)) := runIn_ok e33_ok w33_pur (md := Md) (by kernel_rfl) (by kernel_rfl)
noncomputable def e34 : Env := mkEnv [] []
theorem e34_ok : EnvOK Try.prog e34 := mkEnv_ok (by intro p hp; cases hp) (by intro p hp; cases hp)
theorem w34_pur : ∀ c, opens Ap c = true → PurEnv e34 c := mkEnv_pur _ _ (by intro p hp; cases hp)
theorem o34 : PureOK Try.prog 34 true (FA fun a : List U8 × Int => p_laws_heldByteS a.1 a.2) := pure_tells e34_ok w34_pur (md := Md) (by kernel_rfl) (A := c_laws_heldByteS) (by kernel_rfl) (by
  rintro ⟨x, y⟩ b hb
  exact d_laws_heldByteS x y hb)
noncomputable def e8 : Env := mkEnv [(41, true, FA fun a : List ByteArray × Int => p_laws_szStringS a.1 a.2), (43, true, FA fun a : List ByteArray => p_laws_toStringS a), (42, true, FA fun a : List ByteArray => p_spec_PutTexts a), (30, true, FA fun a : List U8 × List U8 => p_laws_eqByteS a.1 a.2), (45, true, FA fun a : List ByteArray × List ByteArray => p_laws_eqStringS a.1 a.2), (34, true, FA fun a : List U8 × Int => p_laws_heldByteS a.1 a.2)] [(43, (ownFn Try.prog e43 (c_laws_toStringS))), (44, (ownFn Try.prog e44 (c_impl_PutTexts 84))), (46, (runIn Try.prog e46 (c_laws_markStringS 85))), (33, (runIn Try.prog e33 (c_laws_markByteS)))]
theorem e8_ok : EnvOK Try.prog e8 := mkEnv_ok (by
  intro p hp
  simp only [List.mem_cons, List.not_mem_nil, or_false] at hp
  rcases hp with rfl | rfl | rfl | rfl | rfl | rfl
  · exact o41
  · exact o43
  · exact o42
  · exact o30
  · exact o45
  · exact o34) (by
  intro p hp
  simp only [List.mem_cons, List.not_mem_nil, or_false] at hp
  rcases hp with rfl | rfl | rfl | rfl
  · exact y43
  · exact y44
  · exact y46
  · exact y33)
theorem w8_pur : ∀ c, opens ApL c = true → PurEnv e8 c := mkEnv_pur _ _ (by
  intro p hp
  simp only [List.mem_cons, List.not_mem_nil, or_false] at hp
  rcases hp with rfl | rfl | rfl | rfl
  · intro h; exact absurd h (by rw [show ApL 43 = false from rfl]; exact Bool.false_ne_true)
  · intro h; exact absurd h (by rw [show ApL 44 = false from rfl]; exact Bool.false_ne_true)
  · intro h; exact absurd h (by rw [show ApL 46 = false from rfl]; exact Bool.false_ne_true)
  · intro h; exact absurd h (by rw [show ApL 33 = false from rfl]; exact Bool.false_ne_true))
theorem u8_41 : e8 (2 * 41) = pureFn true (FA fun a : List ByteArray × Int => p_laws_szStringS a.1 a.2) := by
  unfold e8
  exact mkEnv_at (by rfl)
theorem u8_43 : e8 (2 * 43) = pureFn true (FA fun a : List ByteArray => p_laws_toStringS a) := by
  unfold e8
  exact mkEnv_at (by rfl)
theorem u8_42 : e8 (2 * 42) = pureFn true (FA fun a : List ByteArray => p_spec_PutTexts a) := by
  unfold e8
  exact mkEnv_at (by rfl)
theorem u8_30 : e8 (2 * 30) = pureFn true (FA fun a : List U8 × List U8 => p_laws_eqByteS a.1 a.2) := by
  unfold e8
  exact mkEnv_at (by rfl)
theorem u8_45 : e8 (2 * 45) = pureFn true (FA fun a : List ByteArray × List ByteArray => p_laws_eqStringS a.1 a.2) := by
  unfold e8
  exact mkEnv_at (by rfl)
theorem u8_34 : e8 (2 * 34) = pureFn true (FA fun a : List U8 × Int => p_laws_heldByteS a.1 a.2) := by
  unfold e8
  exact mkEnv_at (by rfl)
theorem x8_43 : k_laws_toStringS (e8 (2 * 43 + 1)) := by
  unfold e8
  rw [mkEnv_own (g := (ownFn Try.prog e43 (c_laws_toStringS))) (by rfl)]
  exact ko_laws_toStringS
theorem x8_44 : k_impl_PutTexts (e8 (2 * 44 + 1)) := by
  unfold e8
  rw [mkEnv_own (g := (ownFn Try.prog e44 (c_impl_PutTexts 84))) (by rfl)]
  exact ko_impl_PutTexts x44_84
theorem x8_46 : k_laws_markStringS (e8 (2 * 46 + 1)) := by
  unfold e8
  rw [mkEnv_own (g := (runIn Try.prog e46 (c_laws_markStringS 85))) (by rfl)]
  exact ko_laws_markStringS u46_85
theorem x8_33 : k_laws_markByteS (e8 (2 * 33 + 1)) := by
  unfold e8
  rw [mkEnv_own (g := (runIn Try.prog e33 (c_laws_markByteS))) (by rfl)]
  exact ko_laws_markByteS
theorem law : LawOK Try.prog 8 [.sl 16 (.str)] := law_of_run e8_ok w8_pur (md := MdL) (A := c_laws_FnExactPutTexts 41 43 42 44 30 45 46 33 34) (by kernel_rfl) (by
  intro xs hx
  cases hx with
  | cons h0 hx =>
  cases hx
  obtain ⟨a0, rfl, k0⟩ := fit_sl (α := ByteArray) rfl (fun x hx => fit_str hx) h0
  exact d_laws_FnExactPutTexts u8_41 u8_43 u8_42 u8_30 u8_45 u8_34 x8_43 x8_44 x8_46 x8_33 a0 (plain_PutTexts a0 k0))
theorem own : ownKnob Try.prog.godebug = none := by kernel_rfl
theorem laidOut : laidOutB Try.prog = true := by kernel_rfl
set_option maxRecDepth 100000 in
theorem lifted (os : Os) (started : os.Started) (H : Type) (enc : TypeId × Value → H) :
    ReturnsInHanded {} Try.checked os 8 .any (Rows.fnExactPutTextsSpec.pre6 enc Try.prog Try.f8 Rows.fnExactPutTextsRow.domain false) (Rows.fnExactPutTextsSpec.post enc Try.prog Try.f8 false true false false) := by
  refine returnsInHanded_of_change_sized (C := Try.checked) own started (by kernel_rfl) Try.func8
    (ChangeSpec.witness6 (enc := enc) (C := Try.checked) false ⟨#[], #[.slice none 0 0], []⟩ 8 (by kernel_rfl) (by kernel_rfl) (by kernel_rfl) (by kernel_rfl)) ?_
  intro W base args ds gs before hval hW hcnd hsz _
  refine law_contract (n := 8) (tb := 4) (shs := [.sl 16 (.str)]) laidOut rfl ?_ (by kernel_rfl) Try.underlying4 (by kernel_rfl) (by kernel_rfl) law W base args ds gs before hval hW hsz
  intro ds hds
  have h1 : ds.length = 1 := hds
  match ds, h1 with
  | [d0], _ => rfl
theorem over : Rows.fnExactPutTextsRow.holds Try.pinned (OpenSpec.ofChange Rows.fnExactPutTextsSpec) :=
  OpenClaim.holds_of_wide 8 Try.f8 rfl rfl rfl rfl rfl rfl rfl ⟨rfl, rfl, rfl, rfl, rfl⟩ rfl rfl rfl rfl rfl (by kernel_rfl) Try.func8 (by kernel_rfl)
    (of_decide_eq_true (by kernel_rfl)) (by unfold Func.isWrapper; first | (rw [if_pos (by decide +kernel)]; kernel_rfl) | (rw [if_neg (by decide +kernel)]; exact ⟨rfl, rfl⟩))
    (fun os started H enc _ => lifted os started H enc)
theorem proved : Rows.FnExactPutTextsSaid := over
#print axioms proved
end Go.Proofs.Ytjnkmdphjopboaa.RFnExactPutTexts
namespace Go.Proofs.Ytjnkmdphjopboaa
/-- The row, under a short name, for the claim. -/
theorem fnExactPutTexts_holds : Rows.FnExactPutTextsSaid := RFnExactPutTexts.proved
end Go.Proofs.Ytjnkmdphjopboaa
