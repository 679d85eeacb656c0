/- The law FnExactMarkText: its functions' contracts, its run, its row. No condition. -/
import Derived.Test.YtbmeclcmcknbaaaRows
import Derived.Test.YtbmeclcmcknbaaaLabPMarkText
import Derived.WalkKit
import Derived.Shelf.SlSortFunc.Xorshift
import Derived.ProofKit
set_option linter.unusedVariables false
namespace Go.Proofs.Ytbmeclcmcknbaaa.RFnExactMarkText
open Go.AM
open Pic (enc dec dec_enc dec_sub)
def Md : Modes := fun f => if f == 11 then 4 else if f == 12 then 1 else if f == 16 then 4 else if f == 19 then 4 else if f == 20 then 1 else if f == 21 then 2 else if f == 23 then 4 else if f == 24 then 1 else if f == 26 then 2 else if f == 28 then 4 else if f == 31 then 4 else if f == 32 then 1 else if f == 36 then 4 else if f == 37 then 1 else if f == 39 then 2 else if f == 40 then 2 else if f == 51 then 2 else if f == 58 then 4 else if f == 59 then 4 else if f == 70 then 2 else if f == 77 then 2 else if f == 82 then 2 else if f == 83 then 2 else if f == 85 then 4 else if f == 102 then 2 else if f == 103 then 2 else if f == 104 then 2 else if f == 105 then 2 else if f == 106 then 2 else if f == 107 then 2 else if f == 108 then 2 else if f == 109 then 2 else if f == 110 then 2 else if f == 111 then 2 else if f == 113 then 2 else if f == 114 then 2 else if f == 115 then 2 else if f == 116 then 2 else 0
def Ap : Nat → Bool := fun f => Md f == 1
def MdL : Modes := fun f => if Md f == 1 then 3 else Md f
def ApL : Nat → Bool := fun f => MdL f == 1
noncomputable def e10 : Env := mkEnv [] []
theorem e10_ok : EnvOK Try.prog e10 := mkEnv_ok (by intro p hp; cases hp) (by intro p hp; cases hp)
theorem w10_pur : ∀ c, opens Ap c = true → PurEnv e10 c := mkEnv_pur _ _ (by intro p hp; cases hp)
theorem o10 : PureOK Try.prog 10 true (FA fun a : List TLOp × Int => p_laws_szLOpS a.1 a.2) := pure_tells e10_ok w10_pur (md := Md) (by kernel_rfl) (A := c_laws_szLOpS) (by kernel_rfl) (by
  rintro ⟨x, y⟩ b hb
  exact d_laws_szLOpS x y hb)
noncomputable def e30 : Env := mkEnv [] []
theorem e30_ok : EnvOK Try.prog e30 := mkEnv_ok (by intro p hp; cases hp) (by intro p hp; cases hp)
theorem w30_pur : ∀ c, opens Ap c = true → PurEnv e30 c := mkEnv_pur _ _ (by intro p hp; cases hp)
theorem o30 : PureOK Try.prog 30 true (FA fun a : List TMark × Int => p_laws_szMarkOpS a.1 a.2) := pure_tells e30_ok w30_pur (md := Md) (by kernel_rfl) (A := c_laws_szMarkOpS) (by kernel_rfl) (by
  rintro ⟨x, y⟩ b hb
  exact d_laws_szMarkOpS x y hb)
noncomputable def e13 : Env := mkEnv [] []
theorem e13_ok : EnvOK Try.prog e13 := mkEnv_ok (by intro p hp; cases hp) (by intro p hp; cases hp)
theorem w13_pur : ∀ c, opens Ap c = true → PurEnv e13 c := mkEnv_pur _ _ (by intro p hp; cases hp)
theorem o13 : PureOK Try.prog 13 true (FA fun a : TStamp => p_laws_toStamp a) := pure_tells e13_ok w13_pur (md := Md) (by kernel_rfl) (A := c_laws_toStamp) (by kernel_rfl) (by
  rintro x b hb
  exact d_laws_toStamp x hb)
noncomputable def e47 : Env := mkEnv [(13, true, FA fun a : TStamp => p_laws_toStamp a)] []
theorem e47_ok : EnvOK Try.prog e47 := mkEnv_ok (by
  intro p hp
  simp only [List.mem_cons, List.not_mem_nil, or_false] at hp
  subst hp
  exact o13) (by intro p hp; cases hp)
theorem w47_pur : ∀ c, opens Ap c = true → PurEnv e47 c := mkEnv_pur _ _ (by intro p hp; cases hp)
theorem u47_13 : e47 (2 * 13) = pureFn true (FA fun a : TStamp => p_laws_toStamp a) := by
  unfold e47
  exact mkEnv_at (by rfl)
theorem o47 : PureOK Try.prog 47 true (FA fun a : TLOp => p_laws_toLOp a) := pure_tells e47_ok w47_pur (md := Md) (by kernel_rfl) (A := c_laws_toLOp 13) (by kernel_rfl) (by
  rintro x b hb
  exact d_laws_toLOp u47_13 x hb)
noncomputable def e12 : Env := mkEnv [(47, true, FA fun a : TLOp => p_laws_toLOp a)] []
theorem e12_ok : EnvOK Try.prog e12 := mkEnv_ok (by
  intro p hp
  simp only [List.mem_cons, List.not_mem_nil, or_false] at hp
  subst hp
  exact o47) (by intro p hp; cases hp)
theorem w12_pur : ∀ c, opens Ap c = true → PurEnv e12 c := mkEnv_pur _ _ (by intro p hp; cases hp)
theorem u12_47 : e12 (2 * 47) = pureFn true (FA fun a : TLOp => p_laws_toLOp a) := by
  unfold e12
  exact mkEnv_at (by rfl)
theorem o12 : PureOK Try.prog 12 true (FA fun a : List TLOp => p_laws_toLOpS a) := pure_tells e12_ok w12_pur (md := Md) (by kernel_rfl) (A := c_laws_toLOpS 47) (by kernel_rfl) (by
  rintro x b hb
  exact d_laws_toLOpS u12_47 x hb)
theorem y12 : FunOK Try.prog 12 (ownFn Try.prog e12 (c_laws_toLOpS 47)) := ownFn_ok e12_ok w12_pur (md := Md) (by kernel_rfl) (by kernel_rfl)
noncomputable def e60 : Env := mkEnv [(13, true, FA fun a : TStamp => p_laws_toStamp a)] []
theorem e60_ok : EnvOK Try.prog e60 := mkEnv_ok (by
  intro p hp
  simp only [List.mem_cons, List.not_mem_nil, or_false] at hp
  subst hp
  exact o13) (by intro p hp; cases hp)
theorem w60_pur : ∀ c, opens Ap c = true → PurEnv e60 c := mkEnv_pur _ _ (by intro p hp; cases hp)
theorem u60_13 : e60 (2 * 13) = pureFn true (FA fun a : TStamp => p_laws_toStamp a) := by
  unfold e60
  exact mkEnv_at (by rfl)
theorem o60 : PureOK Try.prog 60 true (FA fun a : TMark => p_laws_toMarkOp a) := pure_tells e60_ok w60_pur (md := Md) (by kernel_rfl) (A := c_laws_toMarkOp 13) (by kernel_rfl) (by
  rintro x b hb
  exact d_laws_toMarkOp u60_13 x hb)
noncomputable def e32 : Env := mkEnv [(60, true, FA fun a : TMark => p_laws_toMarkOp a)] []
theorem e32_ok : EnvOK Try.prog e32 := mkEnv_ok (by
  intro p hp
  simp only [List.mem_cons, List.not_mem_nil, or_false] at hp
  subst hp
  exact o60) (by intro p hp; cases hp)
theorem w32_pur : ∀ c, opens Ap c = true → PurEnv e32 c := mkEnv_pur _ _ (by intro p hp; cases hp)
theorem u32_60 : e32 (2 * 60) = pureFn true (FA fun a : TMark => p_laws_toMarkOp a) := by
  unfold e32
  exact mkEnv_at (by rfl)
theorem o32 : PureOK Try.prog 32 true (FA fun a : List TMark => p_laws_toMarkOpS a) := pure_tells e32_ok w32_pur (md := Md) (by kernel_rfl) (A := c_laws_toMarkOpS 60) (by kernel_rfl) (by
  rintro x b hb
  exact d_laws_toMarkOpS u32_60 x hb)
theorem y32 : FunOK Try.prog 32 (ownFn Try.prog e32 (c_laws_toMarkOpS 60)) := ownFn_ok e32_ok w32_pur (md := Md) (by kernel_rfl) (by kernel_rfl)
noncomputable def e85 : Env := mkEnv [] []
theorem e85_ok : EnvOK Try.prog e85 := mkEnv_ok (by intro p hp; cases hp) (by intro p hp; cases hp)
theorem w85_pur : ∀ c, opens Ap c = true → PurEnv e85 c := mkEnv_pur _ _ (by intro p hp; cases hp)
theorem o85 : PureOK Try.prog 85 true (FA fun a : TStamp => p_spec_StampOK a) := pure_tells e85_ok w85_pur (md := Md) (by kernel_rfl) (A := c_spec_StampOK) (by kernel_rfl) (by
  rintro x b hb
  exact d_spec_StampOK x hb)
noncomputable def e74 : Env := mkEnv [] []
theorem e74_ok : EnvOK Try.prog e74 := mkEnv_ok (by intro p hp; cases hp) (by intro p hp; cases hp)
theorem w74_pur : ∀ c, opens Ap c = true → PurEnv e74 c := mkEnv_pur _ _ (by intro p hp; cases hp)
theorem o74 : PureOK Try.prog 74 true (FA fun a : TStamp => p_spec_l02None a) := pure_tells e74_ok w74_pur (md := Md) (by kernel_rfl) (A := c_spec_l02None) (by kernel_rfl) (by
  rintro x b hb
  exact d_spec_l02None x hb)
noncomputable def e58 : Env := mkEnv [] []
theorem e58_ok : EnvOK Try.prog e58 := mkEnv_ok (by intro p hp; cases hp) (by intro p hp; cases hp)
theorem w58_pur : ∀ c, opens Ap c = true → PurEnv e58 c := mkEnv_pur _ _ (by intro p hp; cases hp)
theorem o58 : PureOK Try.prog 58 true (FA fun a : TStamp × TStamp => p_spec_StampLess a.1 a.2) := pure_tells e58_ok w58_pur (md := Md) (by kernel_rfl) (A := c_spec_StampLess) (by kernel_rfl) (by
  rintro ⟨x, y⟩ b hb
  exact d_spec_StampLess x y hb)
noncomputable def e89 : Env := mkEnv [] []
theorem e89_ok : EnvOK Try.prog e89 := mkEnv_ok (by intro p hp; cases hp) (by intro p hp; cases hp)
theorem w89_pur : ∀ c, opens Ap c = true → PurEnv e89 c := mkEnv_pur _ _ (by intro p hp; cases hp)
theorem o89 : PureOK Try.prog 89 true (FA fun a : Int => p_spec_l04Char a) := pure_tells e89_ok w89_pur (md := Md) (by kernel_rfl) (A := c_spec_l04Char) (by kernel_rfl) (by
  rintro x b hb
  exact d_spec_l04Char x hb)
noncomputable def e72 : Env := mkEnv [(85, true, FA fun a : TStamp => p_spec_StampOK a), (74, true, FA fun a : TStamp => p_spec_l02None a), (58, true, FA fun a : TStamp × TStamp => p_spec_StampLess a.1 a.2), (89, true, FA fun a : Int => p_spec_l04Char a)] []
theorem e72_ok : EnvOK Try.prog e72 := mkEnv_ok (by
  intro p hp
  simp only [List.mem_cons, List.not_mem_nil, or_false] at hp
  rcases hp with rfl | rfl | rfl | rfl
  · exact o85
  · exact o74
  · exact o58
  · exact o89) (by intro p hp; cases hp)
theorem w72_pur : ∀ c, opens Ap c = true → PurEnv e72 c := mkEnv_pur _ _ (by intro p hp; cases hp)
theorem u72_85 : e72 (2 * 85) = pureFn true (FA fun a : TStamp => p_spec_StampOK a) := by
  unfold e72
  exact mkEnv_at (by rfl)
theorem u72_74 : e72 (2 * 74) = pureFn true (FA fun a : TStamp => p_spec_l02None a) := by
  unfold e72
  exact mkEnv_at (by rfl)
theorem u72_58 : e72 (2 * 58) = pureFn true (FA fun a : TStamp × TStamp => p_spec_StampLess a.1 a.2) := by
  unfold e72
  exact mkEnv_at (by rfl)
theorem u72_89 : e72 (2 * 89) = pureFn true (FA fun a : Int => p_spec_l04Char a) := by
  unfold e72
  exact mkEnv_at (by rfl)
theorem o72 : PureOK Try.prog 72 true (FA fun a : TLOp => p_spec_l04OpOK a) := pure_tells e72_ok w72_pur (md := Md) (by kernel_rfl) (A := c_spec_l04OpOK 85 74 58 89) (by kernel_rfl) (by
  rintro x b hb
  exact d_spec_l04OpOK u72_85 u72_74 u72_58 u72_89 x hb)
noncomputable def v73 (n : Nat) : Env := mkEnv [(73, true, FA fun a : List TLOp => pN_spec_l04Sort n a), (58, true, FA fun a : TStamp × TStamp => p_spec_StampLess a.1 a.2)] []
theorem v73_ok {n : Nat} (hF : PureOK Try.prog 73 true (FA fun a : List TLOp => pN_spec_l04Sort n a)) : EnvOK Try.prog (v73 n) := mkEnv_ok (by
  intro p hp
  simp only [List.mem_cons, List.not_mem_nil, or_false] at hp
  rcases hp with rfl | rfl
  · exact hF
  · exact o58) (by intro p hp; cases hp)
theorem v73_pur {n : Nat} : ∀ c, opens Ap c = true → PurEnv (v73 n) c := mkEnv_pur _ _ (by intro p hp; cases hp)
theorem u73_58 {n : Nat} : v73 n (2 * 58) = pureFn true (FA fun a : TStamp × TStamp => p_spec_StampLess a.1 a.2) := by
  unfold v73
  exact mkEnv_at (by rfl)
theorem u73_73 {n : Nat} : v73 n (2 * 73) = pureFn true (FA fun a : List TLOp => pN_spec_l04Sort n a) := by
  unfold v73
  exact mkEnv_at (by rfl)
theorem po73 : ∀ n, PureOK Try.prog 73 true (FA fun a : List TLOp => pN_spec_l04Sort n a)
  | 0 => ⟨by kernel_rfl, fun args r h => by
    rw [FA_def] at h
    obtain ⟨a, _, h⟩ := Option.bind_eq_some_iff.1 h
    cases h⟩
  | n + 1 => pure_tells (v73_ok (po73 n)) v73_pur (md := Md) (by kernel_rfl) (A := c_spec_l04Sort 73 58) (by kernel_rfl) (by
    rintro x b hb
    exact d_spec_l04Sort u73_73 u73_58 x hb)
theorem o73 : PureOK Try.prog 73 true (FA fun a : List TLOp => p_spec_l04Sort a) := ⟨by kernel_rfl, fun args r h => by
  rw [FA_def] at h
  obtain ⟨a, h1, h⟩ := Option.bind_eq_some_iff.1 h
  obtain ⟨b, h2, rfl⟩ := Option.map_eq_some_iff.1 h
  obtain ⟨n, h3⟩ := fixP_some h2
  exact (po73 n).2 args _ (by rw [FA_def, h1, Option.bind_some]; simp only [h3]; rfl)⟩
noncomputable def e43 : Env := mkEnv [(58, true, FA fun a : TStamp × TStamp => p_spec_StampLess a.1 a.2)] []
theorem e43_ok : EnvOK Try.prog e43 := mkEnv_ok (by
  intro p hp
  simp only [List.mem_cons, List.not_mem_nil, or_false] at hp
  subst hp
  exact o58) (by intro p hp; cases hp)
theorem w43_pur : ∀ c, opens Ap c = true → PurEnv e43 c := mkEnv_pur _ _ (by intro p hp; cases hp)
theorem u43_58 : e43 (2 * 58) = pureFn true (FA fun a : TStamp × TStamp => p_spec_StampLess a.1 a.2) := by
  unfold e43
  exact mkEnv_at (by rfl)
theorem o43 : PureOK Try.prog 43 true (FA fun a : List TLOp × TStamp => p_spec_l04Has a.1 a.2) := pure_tells e43_ok w43_pur (md := Md) (by kernel_rfl) (A := c_spec_l04Has 58) (by kernel_rfl) (by
  rintro ⟨x, y⟩ b hb
  exact d_spec_l04Has u43_58 x y hb)
noncomputable def e42 : Env := mkEnv [(72, true, FA fun a : TLOp => p_spec_l04OpOK a), (73, true, FA fun a : List TLOp => p_spec_l04Sort a), (74, true, FA fun a : TStamp => p_spec_l02None a), (43, true, FA fun a : List TLOp × TStamp => p_spec_l04Has a.1 a.2)] []
theorem e42_ok : EnvOK Try.prog e42 := mkEnv_ok (by
  intro p hp
  simp only [List.mem_cons, List.not_mem_nil, or_false] at hp
  rcases hp with rfl | rfl | rfl | rfl
  · exact o72
  · exact o73
  · exact o74
  · exact o43) (by intro p hp; cases hp)
theorem w42_pur : ∀ c, opens Ap c = true → PurEnv e42 c := mkEnv_pur _ _ (by intro p hp; cases hp)
theorem u42_72 : e42 (2 * 72) = pureFn true (FA fun a : TLOp => p_spec_l04OpOK a) := by
  unfold e42
  exact mkEnv_at (by rfl)
theorem u42_73 : e42 (2 * 73) = pureFn true (FA fun a : List TLOp => p_spec_l04Sort a) := by
  unfold e42
  exact mkEnv_at (by rfl)
theorem u42_74 : e42 (2 * 74) = pureFn true (FA fun a : TStamp => p_spec_l02None a) := by
  unfold e42
  exact mkEnv_at (by rfl)
theorem u42_43 : e42 (2 * 43) = pureFn true (FA fun a : List TLOp × TStamp => p_spec_l04Has a.1 a.2) := by
  unfold e42
  exact mkEnv_at (by rfl)
theorem o42 : PureOK Try.prog 42 true (FA fun a : List TLOp => p_spec_l04Clean a) := pure_tells e42_ok w42_pur (md := Md) (by kernel_rfl) (A := c_spec_l04Clean 72 73 74 43) (by kernel_rfl) (by
  rintro x b hb
  exact d_spec_l04Clean u42_72 u42_73 u42_74 u42_43 x hb)
noncomputable def e84 : Env := mkEnv [(85, true, FA fun a : TStamp => p_spec_StampOK a)] []
theorem e84_ok : EnvOK Try.prog e84 := mkEnv_ok (by
  intro p hp
  simp only [List.mem_cons, List.not_mem_nil, or_false] at hp
  subst hp
  exact o85) (by intro p hp; cases hp)
theorem w84_pur : ∀ c, opens Ap c = true → PurEnv e84 c := mkEnv_pur _ _ (by intro p hp; cases hp)
theorem u84_85 : e84 (2 * 85) = pureFn true (FA fun a : TStamp => p_spec_StampOK a) := by
  unfold e84
  exact mkEnv_at (by rfl)
theorem o84 : PureOK Try.prog 84 true (FA fun a : TMark => p_spec_l05MarkOK a) := pure_tells e84_ok w84_pur (md := Md) (by kernel_rfl) (A := c_spec_l05MarkOK 85) (by kernel_rfl) (by
  rintro x b hb
  exact d_spec_l05MarkOK u84_85 x hb)
noncomputable def e44 : Env := mkEnv [(74, true, FA fun a : TStamp => p_spec_l02None a)] []
theorem e44_ok : EnvOK Try.prog e44 := mkEnv_ok (by
  intro p hp
  simp only [List.mem_cons, List.not_mem_nil, or_false] at hp
  subst hp
  exact o74) (by intro p hp; cases hp)
theorem w44_pur : ∀ c, opens Ap c = true → PurEnv e44 c := mkEnv_pur _ _ (by intro p hp; cases hp)
theorem u44_74 : e44 (2 * 74) = pureFn true (FA fun a : TStamp => p_spec_l02None a) := by
  unfold e44
  exact mkEnv_at (by rfl)
theorem o44 : PureOK Try.prog 44 true (FA fun a : List TLOp => p_spec_l04Cells a) := pure_tells e44_ok w44_pur (md := Md) (by kernel_rfl) (A := c_spec_l04Cells 74) (by kernel_rfl) (by
  rintro x b hb
  exact d_spec_l04Cells u44_74 x hb)
noncomputable def e56 : Env := mkEnv [(42, true, FA fun a : List TLOp => p_spec_l04Clean a), (84, true, FA fun a : TMark => p_spec_l05MarkOK a), (43, true, FA fun a : List TLOp × TStamp => p_spec_l04Has a.1 a.2), (44, true, FA fun a : List TLOp => p_spec_l04Cells a)] []
theorem e56_ok : EnvOK Try.prog e56 := mkEnv_ok (by
  intro p hp
  simp only [List.mem_cons, List.not_mem_nil, or_false] at hp
  rcases hp with rfl | rfl | rfl | rfl
  · exact o42
  · exact o84
  · exact o43
  · exact o44) (by intro p hp; cases hp)
theorem w56_pur : ∀ c, opens Ap c = true → PurEnv e56 c := mkEnv_pur _ _ (by intro p hp; cases hp)
theorem u56_42 : e56 (2 * 42) = pureFn true (FA fun a : List TLOp => p_spec_l04Clean a) := by
  unfold e56
  exact mkEnv_at (by rfl)
theorem u56_84 : e56 (2 * 84) = pureFn true (FA fun a : TMark => p_spec_l05MarkOK a) := by
  unfold e56
  exact mkEnv_at (by rfl)
theorem u56_43 : e56 (2 * 43) = pureFn true (FA fun a : List TLOp × TStamp => p_spec_l04Has a.1 a.2) := by
  unfold e56
  exact mkEnv_at (by rfl)
theorem u56_44 : e56 (2 * 44) = pureFn true (FA fun a : List TLOp => p_spec_l04Cells a) := by
  unfold e56
  exact mkEnv_at (by rfl)
theorem o56 : PureOK Try.prog 56 false (FA fun a : List TLOp × List TMark => p_spec_l05Clean a.1 a.2) := pure_tells e56_ok w56_pur (md := Md) (by kernel_rfl) (A := c_spec_l05Clean 42 84 43 44) (by kernel_rfl) (by
  rintro ⟨x, y⟩ b hb
  exact d_spec_l05Clean u56_42 u56_84 u56_43 u56_44 x y hb)
noncomputable def e45 : Env := mkEnv [] []
theorem e45_ok : EnvOK Try.prog e45 := mkEnv_ok (by intro p hp; cases hp) (by intro p hp; cases hp)
theorem w45_pur : ∀ c, opens Ap c = true → PurEnv e45 c := mkEnv_pur _ _ (by intro p hp; cases hp)
theorem o45 : PureOK Try.prog 45 true (FA fun a : List TLCell => p_spec_l04Seen a) := pure_tells e45_ok w45_pur (md := Md) (by kernel_rfl) (A := c_spec_l04Seen) (by kernel_rfl) (by
  rintro x b hb
  exact d_spec_l04Seen x hb)
noncomputable def e57 : Env := mkEnv [(58, true, FA fun a : TStamp × TStamp => p_spec_StampLess a.1 a.2)] []
theorem e57_ok : EnvOK Try.prog e57 := mkEnv_ok (by
  intro p hp
  simp only [List.mem_cons, List.not_mem_nil, or_false] at hp
  subst hp
  exact o58) (by intro p hp; cases hp)
theorem w57_pur : ∀ c, opens Ap c = true → PurEnv e57 c := mkEnv_pur _ _ (by intro p hp; cases hp)
theorem u57_58 : e57 (2 * 58) = pureFn true (FA fun a : TStamp × TStamp => p_spec_StampLess a.1 a.2) := by
  unfold e57
  exact mkEnv_at (by rfl)
theorem o57 : PureOK Try.prog 57 true (FA fun a : List TLOp => p_spec_l04Ids a) := pure_tells e57_ok w57_pur (md := Md) (by kernel_rfl) (A := c_spec_l04Ids 58) (by kernel_rfl) (by
  rintro x b hb
  exact d_spec_l04Ids u57_58 x hb)
noncomputable def e59 : Env := mkEnv [(85, true, FA fun a : TStamp => p_spec_StampOK a), (74, true, FA fun a : TStamp => p_spec_l02None a), (58, true, FA fun a : TStamp × TStamp => p_spec_StampLess a.1 a.2)] []
theorem e59_ok : EnvOK Try.prog e59 := mkEnv_ok (by
  intro p hp
  simp only [List.mem_cons, List.not_mem_nil, or_false] at hp
  rcases hp with rfl | rfl | rfl
  · exact o85
  · exact o74
  · exact o58) (by intro p hp; cases hp)
theorem w59_pur : ∀ c, opens Ap c = true → PurEnv e59 c := mkEnv_pur _ _ (by intro p hp; cases hp)
theorem u59_85 : e59 (2 * 85) = pureFn true (FA fun a : TStamp => p_spec_StampOK a) := by
  unfold e59
  exact mkEnv_at (by rfl)
theorem u59_74 : e59 (2 * 74) = pureFn true (FA fun a : TStamp => p_spec_l02None a) := by
  unfold e59
  exact mkEnv_at (by rfl)
theorem u59_58 : e59 (2 * 58) = pureFn true (FA fun a : TStamp × TStamp => p_spec_StampLess a.1 a.2) := by
  unfold e59
  exact mkEnv_at (by rfl)
theorem o59 : PureOK Try.prog 59 true (FA fun a : List TStamp × Int => p_spec_StampNext a.1 a.2) := pure_tells e59_ok w59_pur (md := Md) (by kernel_rfl) (A := c_spec_StampNext 85 74 58) (by kernel_rfl) (by
  rintro ⟨x, y⟩ b hb
  exact d_spec_StampNext u59_85 u59_74 u59_58 x y hb)
noncomputable def e31 : Env := mkEnv [(56, false, FA fun a : List TLOp × List TMark => p_spec_l05Clean a.1 a.2), (45, true, FA fun a : List TLCell => p_spec_l04Seen a), (57, true, FA fun a : List TLOp => p_spec_l04Ids a), (58, true, FA fun a : TStamp × TStamp => p_spec_StampLess a.1 a.2), (59, true, FA fun a : List TStamp × Int => p_spec_StampNext a.1 a.2)] []
theorem e31_ok : EnvOK Try.prog e31 := mkEnv_ok (by
  intro p hp
  simp only [List.mem_cons, List.not_mem_nil, or_false] at hp
  rcases hp with rfl | rfl | rfl | rfl | rfl
  · exact o56
  · exact o45
  · exact o57
  · exact o58
  · exact o59) (by intro p hp; cases hp)
theorem w31_pur : ∀ c, opens Ap c = true → PurEnv e31 c := mkEnv_pur _ _ (by intro p hp; cases hp)
theorem u31_56 : e31 (2 * 56) = pureFn false (FA fun a : List TLOp × List TMark => p_spec_l05Clean a.1 a.2) := by
  unfold e31
  exact mkEnv_at (by rfl)
theorem u31_45 : e31 (2 * 45) = pureFn true (FA fun a : List TLCell => p_spec_l04Seen a) := by
  unfold e31
  exact mkEnv_at (by rfl)
theorem u31_57 : e31 (2 * 57) = pureFn true (FA fun a : List TLOp => p_spec_l04Ids a) := by
  unfold e31
  exact mkEnv_at (by rfl)
theorem u31_58 : e31 (2 * 58) = pureFn true (FA fun a : TStamp × TStamp => p_spec_StampLess a.1 a.2) := by
  unfold e31
  exact mkEnv_at (by rfl)
theorem u31_59 : e31 (2 * 59) = pureFn true (FA fun a : List TStamp × Int => p_spec_StampNext a.1 a.2) := by
  unfold e31
  exact mkEnv_at (by rfl)
theorem o31 : PureOK Try.prog 31 true (FA fun a : List TLOp × List TMark × Int × Int × Int × Int × Bool => p_spec_MarkText a.1 a.2.1 a.2.2.1 a.2.2.2.1 a.2.2.2.2.1 a.2.2.2.2.2.1 a.2.2.2.2.2.2) := pure_tells e31_ok w31_pur (md := Md) (by kernel_rfl) (A := c_spec_MarkText 56 45 57 58 59) (by kernel_rfl) (by
  rintro ⟨x, y, z, u, v5, v6, v7⟩ b hb
  exact d_spec_MarkText u31_56 u31_45 u31_57 u31_58 u31_59 x y z u v5 v6 v7 hb)
noncomputable def e62 : Env := mkEnv [] []
theorem e62_ok : EnvOK Try.prog e62 := mkEnv_ok (by intro p hp; cases hp) (by intro p hp; cases hp)
theorem w62_pur : ∀ c, opens Ap c = true → PurEnv e62 c := mkEnv_pur _ _ (by intro p hp; cases hp)
theorem o62 : PureOK Try.prog 62 true (FA fun a : Int => p_impl_isActor a) := pure_tells e62_ok w62_pur (md := Md) (by kernel_rfl) (A := c_impl_isActor) (by kernel_rfl) (by
  rintro x b hb
  exact d_impl_isActor x hb)
noncomputable def e86 : Env := mkEnv [(62, true, FA fun a : Int => p_impl_isActor a)] []
theorem e86_ok : EnvOK Try.prog e86 := mkEnv_ok (by
  intro p hp
  simp only [List.mem_cons, List.not_mem_nil, or_false] at hp
  subst hp
  exact o62) (by intro p hp; cases hp)
theorem w86_pur : ∀ c, opens Ap c = true → PurEnv e86 c := mkEnv_pur _ _ (by intro p hp; cases hp)
theorem u86_62 : e86 (2 * 62) = pureFn true (FA fun a : Int => p_impl_isActor a) := by
  unfold e86
  exact mkEnv_at (by rfl)
theorem o86 : PureOK Try.prog 86 true (FA fun a : TStamp => p_impl_StampOK a) := pure_tells e86_ok w86_pur (md := Md) (by kernel_rfl) (A := c_impl_StampOK 62) (by kernel_rfl) (by
  rintro x b hb
  exact d_impl_StampOK u86_62 x hb)
noncomputable def e53 : Env := mkEnv [] []
theorem e53_ok : EnvOK Try.prog e53 := mkEnv_ok (by intro p hp; cases hp) (by intro p hp; cases hp)
theorem w53_pur : ∀ c, opens Ap c = true → PurEnv e53 c := mkEnv_pur _ _ (by intro p hp; cases hp)
theorem o53 : PureOK Try.prog 53 true (FA fun a : TStamp × TStamp => p_impl_StampLess a.1 a.2) := pure_tells e53_ok w53_pur (md := Md) (by kernel_rfl) (A := c_impl_StampLess) (by kernel_rfl) (by
  rintro ⟨x, y⟩ b hb
  exact d_impl_StampLess x y hb)
noncomputable def e90 : Env := mkEnv [] []
theorem e90_ok : EnvOK Try.prog e90 := mkEnv_ok (by intro p hp; cases hp) (by intro p hp; cases hp)
theorem w90_pur : ∀ c, opens Ap c = true → PurEnv e90 c := mkEnv_pur _ _ (by intro p hp; cases hp)
theorem o90 : PureOK Try.prog 90 true (FA fun a : Int => p_impl_charOK a) := pure_tells e90_ok w90_pur (md := Md) (by kernel_rfl) (A := c_impl_charOK) (by kernel_rfl) (by
  rintro x b hb
  exact d_impl_charOK x hb)
noncomputable def e75 : Env := mkEnv [(86, true, FA fun a : TStamp => p_impl_StampOK a), (53, true, FA fun a : TStamp × TStamp => p_impl_StampLess a.1 a.2), (90, true, FA fun a : Int => p_impl_charOK a)] []
theorem e75_ok : EnvOK Try.prog e75 := mkEnv_ok (by
  intro p hp
  simp only [List.mem_cons, List.not_mem_nil, or_false] at hp
  rcases hp with rfl | rfl | rfl
  · exact o86
  · exact o53
  · exact o90) (by intro p hp; cases hp)
theorem w75_pur : ∀ c, opens Ap c = true → PurEnv e75 c := mkEnv_pur _ _ (by intro p hp; cases hp)
theorem u75_86 : e75 (2 * 86) = pureFn true (FA fun a : TStamp => p_impl_StampOK a) := by
  unfold e75
  exact mkEnv_at (by rfl)
theorem u75_53 : e75 (2 * 53) = pureFn true (FA fun a : TStamp × TStamp => p_impl_StampLess a.1 a.2) := by
  unfold e75
  exact mkEnv_at (by rfl)
theorem u75_90 : e75 (2 * 90) = pureFn true (FA fun a : Int => p_impl_charOK a) := by
  unfold e75
  exact mkEnv_at (by rfl)
theorem o75 : PureOK Try.prog 75 true (FA fun a : TLOp => p_impl_lopOK a) := pure_tells e75_ok w75_pur (md := Md) (by kernel_rfl) (A := c_impl_lopOK 86 53 90) (by kernel_rfl) (by
  rintro x b hb
  exact d_impl_lopOK u75_86 u75_53 u75_90 x hb)
def sort_ren : Go.Shelf.Ren := ⟨fun | 0 => 0 | 1 => 1 | 2 => 2 | 6 => 51 | 10 => 78 | 11 => 79 | 12 => 80 | 13 => 81 | 14 => 82 | 15 => 91 | 16 => 92 | 17 => 93 | 18 => 94 | 19 => 95 | 20 => 96 | 21 => 97 | 22 => 98 | 23 => 99 | 24 => 100 | 25 => 101 | 26 => 102 | 27 => 103 | 28 => 104 | 29 => 105 | 30 => 106 | 31 => 107 | 32 => 108 | 33 => 109 | 34 => 111 | 35 => 112 | 36 => 113 | 37 => 114 | 38 => 115 | 39 => 116 | 40 => 117 | 41 => 118 | 42 => 119 | 43 => 120 | 44 => 121 | 45 => 122 | 46 => 123 | 47 => 124 | 48 => 125 | 49 => 126 | 50 => 127 | 51 => 128 | 52 => 129 | 53 => 130 | 54 => 131 | 55 => 132 | 56 => 133 | 57 => 134 | 58 => 135 | n => n, fun | 0 => 0 | 1 => 1 | 2 => 2 | 3 => 3 | 4 => 4 | 5 => 5 | 6 => 6 | 7 => 7 | 8 => 8 | 9 => 9 | 10 => 10 | 11 => 11 | 12 => 12 | 13 => 13 | 14 => 14 | 15 => 15 | 16 => 16 | 17 => 17 | 18 => 18 | 19 => 19 | 20 => 20 | 21 => 21 | 23 => 91 | 26 => 92 | 28 => 108 | 32 => 125 | 33 => 126 | 34 => 127 | 35 => 128 | 36 => 129 | 37 => 130 | 38 => 131 | 39 => 132 | 40 => 133 | 41 => 134 | 42 => 135 | 43 => 136 | 44 => 137 | 45 => 140 | 46 => 141 | 47 => 142 | 48 => 143 | 49 => 144 | 50 => 145 | 51 => 146 | 52 => 147 | 53 => 148 | 54 => 149 | 55 => 150 | 56 => 151 | 57 => 152 | 58 => 82 | 59 => 153 | 60 => 154 | 61 => 155 | 62 => 156 | 63 => 157 | 64 => 158 | 65 => 159 | 66 => 160 | 67 => 26 | 68 => 161 | 69 => 162 | 70 => 163 | 71 => 164 | 72 => 165 | 73 => 166 | 74 => 167 | 75 => 168 | 76 => 169 | 77 => 170 | 78 => 171 | 79 => 172 | 80 => 173 | 81 => 174 | 82 => 175 | 83 => 176 | 84 => 177 | n => n, fun n => n⟩
theorem sort_lays : Go.Proofs.LaysGg.n6 Try.prog sort_ren where
  mixed := by kernel_rfl
  f6 := Try.func51.trans (congrArg some (by kernel_rfl))
  f10 := Try.func78.trans (congrArg some (by kernel_rfl))
  f11 := Try.func79.trans (congrArg some (by kernel_rfl))
  f12 := Try.func80.trans (congrArg some (by kernel_rfl))
  f13 := Try.func81.trans (congrArg some (by kernel_rfl))
  f14 := Try.func82.trans (congrArg some (by kernel_rfl))
  f24 := Try.func100.trans (congrArg some (by kernel_rfl))
  f25 := Try.func101.trans (congrArg some (by kernel_rfl))
  f26 := Try.func102.trans (congrArg some (by kernel_rfl))
  f27 := Try.func103.trans (congrArg some (by kernel_rfl))
  f28 := Try.func104.trans (congrArg some (by kernel_rfl))
  f29 := Try.func105.trans (congrArg some (by kernel_rfl))
  f30 := Try.func106.trans (congrArg some (by kernel_rfl))
  f31 := Try.func107.trans (congrArg some (by kernel_rfl))
  f32 := Try.func108.trans (congrArg some (by kernel_rfl))
  f33 := Try.func109.trans (congrArg some (by kernel_rfl))
  f34 := Try.func111.trans (congrArg some (by kernel_rfl))
  f35 := Try.func112.trans (congrArg some (by kernel_rfl))
  f36 := Try.func113.trans (congrArg some (by kernel_rfl))
  f37 := Try.func114.trans (congrArg some (by kernel_rfl))
  f38 := Try.func115.trans (congrArg some (by kernel_rfl))
  f39 := Try.func116.trans (congrArg some (by kernel_rfl))
  t0 := Try.underlying0
  a0 := Try.isAgg0
  z0 := Try.sizeOf0
  v0 := Try.zeroValue0
  i0 := by kernel_rfl
  t3 := Try.underlying3
  a3 := Try.isAgg3
  z3 := Try.sizeOf3
  v3 := Try.zeroValue3
  i3 := by kernel_rfl
  t4 := Try.underlying4
  a4 := Try.isAgg4
  z4 := Try.sizeOf4
  v4 := Try.zeroValue4
  i4 := by kernel_rfl
  t5 := Try.underlying5
  a5 := Try.isAgg5
  z5 := Try.sizeOf5
  v5 := Try.zeroValue5
  i5 := by kernel_rfl
  t9 := Try.underlying9
  a9 := Try.isAgg9
  z9 := Try.sizeOf9
  v9 := Try.zeroValue9
  i9 := by kernel_rfl
  t12 := Try.underlying12
  a12 := Try.isAgg12
  z12 := Try.sizeOf12
  v12 := Try.zeroValue12
  i12 := by kernel_rfl
  t17 := Try.underlying17
  a17 := Try.isAgg17
  z17 := Try.sizeOf17
  v17 := Try.zeroValue17
  i17 := by kernel_rfl
  t20 := Try.underlying20
  a20 := Try.isAgg20
  z20 := Try.sizeOf20
  v20 := Try.zeroValue20
  i20 := by kernel_rfl
  t26 := Try.underlying92
  a26 := Try.isAgg92
  z26 := Try.sizeOf92
  v26 := Try.zeroValue92
  i26 := by kernel_rfl
  t32 := Try.underlying125
  a32 := Try.isAgg125
  z32 := Try.sizeOf125
  v32 := Try.zeroValue125
  i32 := by kernel_rfl
  t33 := Try.underlying126
  a33 := Try.isAgg126
  z33 := Try.sizeOf126
  v33 := Try.zeroValue126
  i33 := by kernel_rfl
  t35 := Try.underlying128
  a35 := Try.isAgg128
  z35 := Try.sizeOf128
  v35 := Try.zeroValue128
  i35 := by kernel_rfl
  t37 := Try.underlying130
  a37 := Try.isAgg130
  z37 := Try.sizeOf130
  v37 := Try.zeroValue130
  i37 := by kernel_rfl
  t41 := Try.underlying134
  a41 := Try.isAgg134
  z41 := Try.sizeOf134
  v41 := Try.zeroValue134
  i41 := by kernel_rfl
  t44 := Try.underlying137
  a44 := Try.isAgg137
  z44 := Try.sizeOf137
  v44 := Try.zeroValue137
  i44 := by kernel_rfl
  t49 := Try.underlying144
  a49 := Try.isAgg144
  z49 := Try.sizeOf144
  v49 := Try.zeroValue144
  i49 := by kernel_rfl
  t51 := Try.underlying146
  a51 := Try.isAgg146
  z51 := Try.sizeOf146
  v51 := Try.zeroValue146
  i51 := by kernel_rfl
  t53 := Try.underlying148
  a53 := Try.isAgg148
  z53 := Try.sizeOf148
  v53 := Try.zeroValue148
  i53 := by kernel_rfl
  t54 := Try.underlying149
  a54 := Try.isAgg149
  z54 := Try.sizeOf149
  v54 := Try.zeroValue149
  i54 := by kernel_rfl
  t58 := Try.underlying82
  a58 := Try.isAgg82
  z58 := Try.sizeOf82
  v58 := Try.zeroValue82
  i58 := by kernel_rfl
  t60 := Try.underlying154
  a60 := Try.isAgg154
  z60 := Try.sizeOf154
  v60 := Try.zeroValue154
  i60 := by kernel_rfl
  t64 := Try.underlying158
  a64 := Try.isAgg158
  z64 := Try.sizeOf158
  v64 := Try.zeroValue158
  i64 := by kernel_rfl
  t66 := Try.underlying160
  a66 := Try.isAgg160
  z66 := Try.sizeOf160
  v66 := Try.zeroValue160
  i66 := by kernel_rfl
  t67 := Try.underlying26
  a67 := Try.isAgg26
  z67 := Try.sizeOf26
  v67 := Try.zeroValue26
  i67 := by kernel_rfl
  t75 := Try.underlying168
  a75 := Try.isAgg168
  z75 := Try.sizeOf168
  v75 := Try.zeroValue168
  i75 := by kernel_rfl
  t76 := Try.underlying169
  a76 := Try.isAgg169
  z76 := Try.sizeOf169
  v76 := Try.zeroValue169
  i76 := by kernel_rfl
  t77 := Try.underlying170
  a77 := Try.isAgg170
  z77 := Try.sizeOf170
  v77 := Try.zeroValue170
  i77 := by kernel_rfl
  t78 := Try.underlying171
  a78 := Try.isAgg171
  z78 := Try.sizeOf171
  v78 := Try.zeroValue171
  i78 := by kernel_rfl
  t79 := Try.underlying172
  a79 := Try.isAgg172
  z79 := Try.sizeOf172
  v79 := Try.zeroValue172
  i79 := by kernel_rfl
  t80 := Try.underlying173
  a80 := Try.isAgg173
  z80 := Try.sizeOf173
  v80 := Try.zeroValue173
  i80 := by kernel_rfl
  t82 := Try.underlying175
  a82 := Try.isAgg175
  z82 := Try.sizeOf175
  v82 := Try.zeroValue175
  i82 := by kernel_rfl
def sortTabL : List (Nat × AFn) := [(102, c_sort_insertionSort_func), (111, c_sort_siftDown_func), (103, (c_sort_heapSort_func 111)), (106, c_sort_reverseRange_func), (107, c_sort_partialInsertionSort_func), (108, c_sort_partitionEqual_func), (109, c_sort_partition_func), (116, c_sort_order2_func), (115, (c_sort_median_func 116)), (114, (c_sort_medianAdjacent_func 115)), (105, (c_sort_choosePivot_func 114 115)), (113, c_sort_xorshift_Next), (104, (c_sort_breakPatterns_func 112 113)), (82, (c_sort_pdqsort_func 102 103 104 105 106 107 108 109 82))]
def sortTab : Nat → Option AFn := fun f => sortTabL.lookup f
theorem sortTab_T : SortT sortTab 102 103 104 105 106 107 108 109 82 111 116 115 114 113 112 := ⟨rfl, rfl, rfl, rfl, rfl, rfl, rfl, rfl, rfl, rfl, rfl, rfl, rfl, rfl⟩
theorem sortTab_ok : ∀ f F, sortTab f = some F → callable Try.prog f = true ∧ compFn Try.prog (fun _ => false) Md f = some F := by
  intro f F h
  have hm := lookup_mem h
  unfold sortTabL at hm
  simp only [List.mem_cons, List.not_mem_nil, or_false, Prod.mk.injEq] at hm
  rcases hm with ⟨rfl, rfl⟩ | ⟨rfl, rfl⟩ | ⟨rfl, rfl⟩ | ⟨rfl, rfl⟩ | ⟨rfl, rfl⟩ | ⟨rfl, rfl⟩ | ⟨rfl, rfl⟩ | ⟨rfl, rfl⟩ | ⟨rfl, rfl⟩ | ⟨rfl, rfl⟩ | ⟨rfl, rfl⟩ | ⟨rfl, rfl⟩ | ⟨rfl, rfl⟩ | ⟨rfl, rfl⟩
  · exact ⟨by kernel_rfl, by kernel_rfl⟩
  · exact ⟨by kernel_rfl, by kernel_rfl⟩
  · exact ⟨by kernel_rfl, by kernel_rfl⟩
  · exact ⟨by kernel_rfl, by kernel_rfl⟩
  · exact ⟨by kernel_rfl, by kernel_rfl⟩
  · exact ⟨by kernel_rfl, by kernel_rfl⟩
  · exact ⟨by kernel_rfl, by kernel_rfl⟩
  · exact ⟨by kernel_rfl, by kernel_rfl⟩
  · exact ⟨by kernel_rfl, by kernel_rfl⟩
  · exact ⟨by kernel_rfl, by kernel_rfl⟩
  · exact ⟨by kernel_rfl, by kernel_rfl⟩
  · exact ⟨by kernel_rfl, by kernel_rfl⟩
  · exact ⟨by kernel_rfl, by kernel_rfl⟩
  · exact ⟨by kernel_rfl, by kernel_rfl⟩
noncomputable def sortL0 : Env := mkEnv [] []
theorem sortL0_ok : EnvOK Try.prog sortL0 := mkEnv_ok (by intro p hp; cases hp) (by intro p hp; cases hp)
theorem sortL0_pur : ∀ c, opens Ap c = true → PurEnv sortL0 c := mkEnv_pur _ _ (by intro p hp; cases hp)
theorem sort_less0 : PureOK Try.prog 53 true (FA fun a : TStamp × TStamp => p_impl_StampLess a.1 a.2) := pure_tells sortL0_ok sortL0_pur (md := Md) (by kernel_rfl) (A := c_impl_StampLess) (by kernel_rfl) (by
  rintro ⟨x, y⟩ b hb
  exact d_impl_StampLess x y hb)
noncomputable def sortL1 : Env := mkEnv [(53, true, FA fun a : TStamp × TStamp => p_impl_StampLess a.1 a.2)] []
theorem sortL1_ok : EnvOK Try.prog sortL1 := mkEnv_ok (by
  intro p hp
  simp only [List.mem_cons, List.not_mem_nil, or_false] at hp
  subst hp
  exact sort_less0) (by intro p hp; cases hp)
theorem sortL1_pur : ∀ c, opens Ap c = true → PurEnv sortL1 c := mkEnv_pur _ _ (by intro p hp; cases hp)
theorem sortL1_at : sortL1 (2 * 53) = pureFn true (FA fun a : TStamp × TStamp => p_impl_StampLess a.1 a.2) := by
  unfold sortL1
  exact mkEnv_at (by rfl)
theorem sort_less : PureOK Try.prog 76 true (FA fun a : Int × Int × PtrL TLOp => p_impl_readList_1 a.1 a.2.1 a.2.2) := pure_tells sortL1_ok sortL1_pur (md := Md) (by kernel_rfl) (A := c_impl_readList_1 53) (by kernel_rfl) (by
  rintro ⟨x, y, z⟩ b hb
  exact d_impl_readList_1 sortL1_at x y z hb)
noncomputable def sortI : TypeInfo := (Try.prog.info? 28).get (by kernel_rfl)
noncomputable def sortE : TypeInfo := (Try.prog.info? 75).get (by kernel_rfl)
theorem sortK (n : Nat) (h2 : 2 ≤ n) : Go.Lib.swapperK n sortE 25 = 9 := by
  have a : sortE.hasPointers = false := by kernel_rfl
  have b : sortE.bytes = 48 := by kernel_rfl
  have c : (n == 0) = false := by simp; omega
  have d : (n == 1) = false := by simp; omega
  simp [Go.Lib.swapperK, a, b, c, d]
theorem sortW : ∀ n, 2 ≤ n → Try.prog.funcs.findIdx? (·.name == "internal/reflectlite" ++ ".Swapper$" ++ toString (Go.Lib.swapperK n sortE 25)) = some 99 := by
  intro n h
  rw [sortK n h]
  kernel_rfl
theorem sortF : ∀ n, ∃ f, Try.prog.funcs.findIdx? (·.name == "internal/reflectlite" ++ ".Swapper$" ++ toString (Go.Lib.swapperK n sortE 25)) = some f := by
  intro n
  match n with
  | 0 => exact ⟨91, by kernel_rfl⟩
  | 1 => exact ⟨92, by kernel_rfl⟩
  | n + 2 => exact ⟨99, sortW (n + 2) (by omega)⟩
theorem sort_swap : FunOK Try.prog 99 (swapFn 6 (typeHandle Try.prog 75)) := swapFn_ok (ie := sortE) false (fun args W => Go.run_callFunc_extern Try.func99 (by kernel_rfl) (by kernel_rfl) (by kernel_rfl) (e := Extern.ReflectliteSwapper.swap false) (by kernel_rfl) args W) (by kernel_rfl) (by kernel_rfl) (fun _ => by kernel_rfl)
theorem sort_next : PureOK Try.prog 112 true nextF := next_ok (by kernel_rfl) (fun n hn w => Go.Proofs.Any.nextPowerOfTwo (P := Try.prog) (ρ := sort_ren) { sort_lays with } n hn w)
noncomputable def sortBs : Env := sortBase 99 6 (typeHandle Try.prog 75) [(76, true, FA fun a : Int × Int × PtrL TLOp => p_impl_readList_1 a.1 a.2.1 a.2.2), (112, true, nextF)]
theorem sortBs_ok : EnvOK Try.prog sortBs := sortBase_ok sort_swap (by
  intro p hp
  simp only [List.mem_cons, List.not_mem_nil, or_false] at hp
  rcases hp with rfl | rfl
  · exact sort_less
  · exact sort_next)
noncomputable def sliceFL : Fun := sliceFn Try.prog sortBs sortTab (c_sort_pdqsort_func 102 103 104 105 106 107 108 109 82) 28 6 99 (typeHandle Try.prog 75)
theorem ysL : FunOK Try.prog 51 sliceFL := sliceFn_ok (ρ := sort_ren) sort_lays 28 75 sortI sortE (by kernel_rfl) (by kernel_rfl) (by kernel_rfl) (by kernel_rfl) 25 (fun _ => by kernel_rfl) 99 sortF sortW (by kernel_rfl) (fun n => envN_ok sortBs_ok sortTab_ok n) (md := Md) (by kernel_rfl) rfl 6
theorem koL : kSlice (α := TLOp) 28 76 (ltK TLOp.id) sliceFL := kslice_holds (α := TLOp) sortTab_T (fun h l hl => by
  try unfold sortBs
  rw [sortBase_at (by decide), mkEnv_at (fr := true) (F := nextF) (by rfl)]
  exact next_at hl h) lopS rfl sortBase_swap (ltK_swo TLOp.id) (by
  try unfold sortBs
  rw [sortBase_at (by decide)]
  exact mkEnv_at (by rfl)) less_lop
theorem sort_lessM : PureOK Try.prog 87 true (FA fun a : Int × Int × PtrL TMark => p_impl_readRich_1 a.1 a.2.1 a.2.2) := pure_tells sortL1_ok sortL1_pur (md := Md) (by kernel_rfl) (A := c_impl_readRich_1 53) (by kernel_rfl) (by
  rintro ⟨x, y, z⟩ b hb
  exact d_impl_readRich_1 sortL1_at x y z hb)
noncomputable def sortIM : TypeInfo := (Try.prog.info? 56).get (by kernel_rfl)
noncomputable def sortEM : TypeInfo := (Try.prog.info? 53).get (by kernel_rfl)
theorem sortKM (n : Nat) (h2 : 2 ≤ n) : Go.Lib.swapperK n sortEM 25 = 9 := by
  have a : sortEM.hasPointers = false := by kernel_rfl
  have b : sortEM.bytes = 64 := by kernel_rfl
  have c : (n == 0) = false := by simp; omega
  have d : (n == 1) = false := by simp; omega
  simp [Go.Lib.swapperK, a, b, c, d]
theorem sortWM : ∀ n, 2 ≤ n → Try.prog.funcs.findIdx? (·.name == "internal/reflectlite" ++ ".Swapper$" ++ toString (Go.Lib.swapperK n sortEM 25)) = some 99 := by
  intro n h
  rw [sortKM n h]
  kernel_rfl
theorem sortFM : ∀ n, ∃ f, Try.prog.funcs.findIdx? (·.name == "internal/reflectlite" ++ ".Swapper$" ++ toString (Go.Lib.swapperK n sortEM 25)) = some f := by
  intro n
  match n with
  | 0 => exact ⟨91, by kernel_rfl⟩
  | 1 => exact ⟨92, by kernel_rfl⟩
  | n + 2 => exact ⟨99, sortWM (n + 2) (by omega)⟩
theorem sort_swapM : FunOK Try.prog 99 (swapFn 8 (typeHandle Try.prog 53)) := swapFn_ok (ie := sortEM) false (fun args W => Go.run_callFunc_extern Try.func99 (by kernel_rfl) (by kernel_rfl) (by kernel_rfl) (e := Extern.ReflectliteSwapper.swap false) (by kernel_rfl) args W) (by kernel_rfl) (by kernel_rfl) (fun _ => by kernel_rfl)
theorem sort_nextM : PureOK Try.prog 112 true nextF := next_ok (by kernel_rfl) (fun n hn w => Go.Proofs.Any.nextPowerOfTwo (P := Try.prog) (ρ := sort_ren) { sort_lays with } n hn w)
noncomputable def sortBsM : Env := sortBase 99 8 (typeHandle Try.prog 53) [(87, true, FA fun a : Int × Int × PtrL TMark => p_impl_readRich_1 a.1 a.2.1 a.2.2), (112, true, nextF)]
theorem sortBs_okM : EnvOK Try.prog sortBsM := sortBase_ok sort_swapM (by
  intro p hp
  simp only [List.mem_cons, List.not_mem_nil, or_false] at hp
  rcases hp with rfl | rfl
  · exact sort_lessM
  · exact sort_nextM)
noncomputable def sliceFM : Fun := sliceFn Try.prog sortBsM sortTab (c_sort_pdqsort_func 102 103 104 105 106 107 108 109 82) 56 8 99 (typeHandle Try.prog 53)
theorem ysM : FunOK Try.prog 51 sliceFM := sliceFn_ok (ρ := sort_ren) sort_lays 56 53 sortIM sortEM (by kernel_rfl) (by kernel_rfl) (by kernel_rfl) (by kernel_rfl) 25 (fun _ => by kernel_rfl) 99 sortFM sortWM (by kernel_rfl) (fun n => envN_ok sortBs_okM sortTab_ok n) (md := Md) (by kernel_rfl) rfl 8
theorem koM : kSlice (α := TMark) 56 87 (ltK TMark.id) sliceFM := kslice_holds (α := TMark) sortTab_T (fun h l hl => by
  try unfold sortBsM
  rw [sortBase_at (by decide), mkEnv_at (fr := true) (F := nextF) (by rfl)]
  exact next_at hl h) markS rfl sortBase_swap (ltK_swo TMark.id) (by
  try unfold sortBsM
  rw [sortBase_at (by decide)]
  exact mkEnv_at (by rfl)) less_mark
noncomputable def sliceF : Fun := fun slot args h => match args with
  | [x, .clo c l] => if c = 87 then sliceFM slot [x, .clo c l] h else sliceFL slot [x, .clo c l] h
  | _ => none
theorem y51 : FunOK Try.prog 51 sliceF := by
  intro slot args H v H' hg
  unfold sliceF at hg
  split at hg
  · split at hg
    · exact ysM _ _ _ _ _ hg
    · exact ysL _ _ _ _ _ hg
  · cases hg
theorem sliceF_L (slot : Option Nat) (x : V) (l : List V) (h : Heap) : sliceF slot [x, .clo 76 l] h = sliceFL slot [x, .clo 76 l] h := rfl
theorem sliceF_M (slot : Option Nat) (x : V) (l : List V) (h : Heap) : sliceF slot [x, .clo 87 l] h = sliceFM slot [x, .clo 87 l] h := rfl
theorem ko_sort_Slice : kSlice (α := TLOp) 28 76 (ltK TLOp.id) sliceF := by
  intro xs H b c h1 h2 h3 h4
  obtain ⟨h', e1, e2⟩ := koL xs H b c h1 h2 h3 h4
  exact ⟨h', (sliceF_L _ _ _ _).trans e1, e2⟩
theorem ko_sort_Slice_impl_readRich : kSlice (α := TMark) 56 87 (ltK TMark.id) sliceF := by
  intro xs H b c h1 h2 h3 h4
  obtain ⟨h', e1, e2⟩ := koM xs H b c h1 h2 h3 h4
  exact ⟨h', (sliceF_M _ _ _ _).trans e1, e2⟩
noncomputable def e77 : Env := mkEnv [] []
theorem e77_ok : EnvOK Try.prog e77 := mkEnv_ok (by intro p hp; cases hp) (by intro p hp; cases hp)
theorem w77_pur : ∀ c, opens Ap c = true → PurEnv e77 c := mkEnv_pur _ _ (by intro p hp; cases hp)
theorem y77 : FunOK Try.prog 77 (runIn Try.prog e77 (c_impl_list_walk)) := runIn_ok e77_ok w77_pur (md := Md) (by kernel_rfl) (by kernel_rfl)
noncomputable def e48 : Env := mkEnv [(75, true, FA fun a : TLOp => p_impl_lopOK a)] [(51, sliceF), (77, (runIn Try.prog e77 (c_impl_list_walk)))]
theorem e48_ok : EnvOK Try.prog e48 := mkEnv_ok (by
  intro p hp
  simp only [List.mem_cons, List.not_mem_nil, or_false] at hp
  subst hp
  exact o75) (by
  intro p hp
  simp only [List.mem_cons, List.not_mem_nil, or_false] at hp
  rcases hp with rfl | rfl
  · exact y51
  · exact y77)
theorem w48_pur : ∀ c, opens Ap c = true → PurEnv e48 c := mkEnv_pur _ _ (by
  intro p hp
  simp only [List.mem_cons, List.not_mem_nil, or_false] at hp
  rcases hp with rfl | rfl
  · intro h; exact absurd h (by rw [show Ap 51 = false from rfl]; exact Bool.false_ne_true)
  · intro h; exact absurd h (by rw [show Ap 77 = false from rfl]; exact Bool.false_ne_true))
theorem u48_75 : e48 (2 * 75) = pureFn true (FA fun a : TLOp => p_impl_lopOK a) := by
  unfold e48
  exact mkEnv_at (by rfl)
theorem x48_51 : kSlice (α := TLOp) 28 76 (ltK TLOp.id) (e48 (2 * 51 + 1)) := by
  unfold e48
  rw [mkEnv_own (g := sliceF) (by rfl)]
  exact ko_sort_Slice
theorem x48_77 : k_impl_list_walk (e48 (2 * 77 + 1)) := by
  unfold e48
  rw [mkEnv_own (g := (runIn Try.prog e77 (c_impl_list_walk))) (by rfl)]
  exact ko_impl_list_walk
theorem o48 : PureOK Try.prog 48 true (FA fun a : List TLOp => p_impl_readList a) := pure_tells e48_ok w48_pur (md := Md) (by kernel_rfl) (A := c_impl_readList 75 51 77 76) (by kernel_rfl) (by
  rintro x b hb
  exact d_impl_readList u48_75 x48_51 x48_77 x hb)
noncomputable def e61 : Env := mkEnv [(48, true, FA fun a : List TLOp => p_impl_readList a), (86, true, FA fun a : TStamp => p_impl_StampOK a)] [(51, sliceF)]
theorem e61_ok : EnvOK Try.prog e61 := mkEnv_ok (by
  intro p hp
  simp only [List.mem_cons, List.not_mem_nil, or_false] at hp
  rcases hp with rfl | rfl
  · exact o48
  · exact o86) (by
  intro p hp
  simp only [List.mem_cons, List.not_mem_nil, or_false] at hp
  subst hp
  exact y51)
theorem w61_pur : ∀ c, opens Ap c = true → PurEnv e61 c := mkEnv_pur _ _ (by
  intro p hp
  simp only [List.mem_cons, List.not_mem_nil, or_false] at hp
  subst hp
  intro h; exact absurd h (by rw [show Ap 51 = false from rfl]; exact Bool.false_ne_true))
theorem u61_48 : e61 (2 * 48) = pureFn true (FA fun a : List TLOp => p_impl_readList a) := by
  unfold e61
  exact mkEnv_at (by rfl)
theorem u61_86 : e61 (2 * 86) = pureFn true (FA fun a : TStamp => p_impl_StampOK a) := by
  unfold e61
  exact mkEnv_at (by rfl)
theorem x61_51 : kSlice (α := TMark) 56 87 (ltK TMark.id) (e61 (2 * 51 + 1)) := by
  unfold e61
  rw [mkEnv_own (g := sliceF) (by rfl)]
  exact ko_sort_Slice_impl_readRich
theorem o61 : PureOK Try.prog 61 false (FA fun a : List TLOp × List TMark => p_impl_readRich a.1 a.2) := pure_tells e61_ok w61_pur (md := Md) (by kernel_rfl) (A := c_impl_readRich 48 86 51 87) (by kernel_rfl) (by
  rintro ⟨x, y⟩ b hb
  exact d_impl_readRich u61_48 u61_86 x61_51 x y hb)
noncomputable def e50 : Env := mkEnv [] []
theorem e50_ok : EnvOK Try.prog e50 := mkEnv_ok (by intro p hp; cases hp) (by intro p hp; cases hp)
theorem w50_pur : ∀ c, opens Ap c = true → PurEnv e50 c := mkEnv_pur _ _ (by intro p hp; cases hp)
theorem o50 : PureOK Try.prog 50 true (FA fun a : Option TList => p_impl_list_seen a) := pure_tells e50_ok w50_pur (md := Md) (by kernel_rfl) (A := c_impl_list_seen) (by kernel_rfl) (by
  rintro x b hb
  exact d_impl_list_seen x hb)
noncomputable def e63 : Env := mkEnv [] []
theorem e63_ok : EnvOK Try.prog e63 := mkEnv_ok (by intro p hp; cases hp) (by intro p hp; cases hp)
theorem w63_pur : ∀ c, opens Ap c = true → PurEnv e63 c := mkEnv_pur _ _ (by intro p hp; cases hp)
theorem o63 : PureOK Try.prog 63 true (FA fun a : Option TList => p_impl_list_top a) := pure_tells e63_ok w63_pur (md := Md) (by kernel_rfl) (A := c_impl_list_top) (by kernel_rfl) (by
  rintro x b hb
  exact d_impl_list_top x hb)
noncomputable def e64 : Env := mkEnv [(86, true, FA fun a : TStamp => p_impl_StampOK a)] []
theorem e64_ok : EnvOK Try.prog e64 := mkEnv_ok (by
  intro p hp
  simp only [List.mem_cons, List.not_mem_nil, or_false] at hp
  subst hp
  exact o86) (by intro p hp; cases hp)
theorem w64_pur : ∀ c, opens Ap c = true → PurEnv e64 c := mkEnv_pur _ _ (by intro p hp; cases hp)
theorem u64_86 : e64 (2 * 86) = pureFn true (FA fun a : TStamp => p_impl_StampOK a) := by
  unfold e64
  exact mkEnv_at (by rfl)
theorem o64 : PureOK Try.prog 64 true (FA fun a : TStamp × Int => p_impl_nextAbove a.1 a.2) := pure_tells e64_ok w64_pur (md := Md) (by kernel_rfl) (A := c_impl_nextAbove 86) (by kernel_rfl) (by
  rintro ⟨x, y⟩ b hb
  exact d_impl_nextAbove u64_86 x y hb)
noncomputable def e33 : Env := mkEnv [(61, false, FA fun a : List TLOp × List TMark => p_impl_readRich a.1 a.2), (50, true, FA fun a : Option TList => p_impl_list_seen a), (62, true, FA fun a : Int => p_impl_isActor a), (63, true, FA fun a : Option TList => p_impl_list_top a), (53, true, FA fun a : TStamp × TStamp => p_impl_StampLess a.1 a.2), (64, true, FA fun a : TStamp × Int => p_impl_nextAbove a.1 a.2)] []
theorem e33_ok : EnvOK Try.prog e33 := mkEnv_ok (by
  intro p hp
  simp only [List.mem_cons, List.not_mem_nil, or_false] at hp
  rcases hp with rfl | rfl | rfl | rfl | rfl | rfl
  · exact o61
  · exact o50
  · exact o62
  · exact o63
  · exact o53
  · exact o64) (by intro p hp; cases hp)
theorem w33_pur : ∀ c, opens Ap c = true → PurEnv e33 c := mkEnv_pur _ _ (by intro p hp; cases hp)
theorem u33_61 : e33 (2 * 61) = pureFn false (FA fun a : List TLOp × List TMark => p_impl_readRich a.1 a.2) := by
  unfold e33
  exact mkEnv_at (by rfl)
theorem u33_50 : e33 (2 * 50) = pureFn true (FA fun a : Option TList => p_impl_list_seen a) := by
  unfold e33
  exact mkEnv_at (by rfl)
theorem u33_62 : e33 (2 * 62) = pureFn true (FA fun a : Int => p_impl_isActor a) := by
  unfold e33
  exact mkEnv_at (by rfl)
theorem u33_63 : e33 (2 * 63) = pureFn true (FA fun a : Option TList => p_impl_list_top a) := by
  unfold e33
  exact mkEnv_at (by rfl)
theorem u33_53 : e33 (2 * 53) = pureFn true (FA fun a : TStamp × TStamp => p_impl_StampLess a.1 a.2) := by
  unfold e33
  exact mkEnv_at (by rfl)
theorem u33_64 : e33 (2 * 64) = pureFn true (FA fun a : TStamp × Int => p_impl_nextAbove a.1 a.2) := by
  unfold e33
  exact mkEnv_at (by rfl)
theorem o33 : PureOK Try.prog 33 true (FA fun a : List TLOp × List TMark × Int × Int × Int × Int × Bool => p_impl_MarkText a.1 a.2.1 a.2.2.1 a.2.2.2.1 a.2.2.2.2.1 a.2.2.2.2.2.1 a.2.2.2.2.2.2) := pure_tells e33_ok w33_pur (md := Md) (by kernel_rfl) (A := c_impl_MarkText 61 50 62 63 53 64) (by kernel_rfl) (by
  rintro ⟨x, y, z, u, v5, v6, v7⟩ b hb
  exact d_impl_MarkText u33_61 u33_50 u33_62 u33_63 u33_53 u33_64 x y z u v5 v6 v7 hb)
noncomputable def e18 : Env := mkEnv [] []
theorem e18_ok : EnvOK Try.prog e18 := mkEnv_ok (by intro p hp; cases hp) (by intro p hp; cases hp)
theorem w18_pur : ∀ c, opens Ap c = true → PurEnv e18 c := mkEnv_pur _ _ (by intro p hp; cases hp)
theorem o18 : PureOK Try.prog 18 true (FA fun a : TStamp × TStamp => p_laws_eqStamp a.1 a.2) := pure_tells e18_ok w18_pur (md := Md) (by kernel_rfl) (A := c_laws_eqStamp) (by kernel_rfl) (by
  rintro ⟨x, y⟩ b hb
  exact d_laws_eqStamp x y hb)
noncomputable def e34 : Env := mkEnv [(18, true, FA fun a : TStamp × TStamp => p_laws_eqStamp a.1 a.2)] []
theorem e34_ok : EnvOK Try.prog e34 := mkEnv_ok (by
  intro p hp
  simp only [List.mem_cons, List.not_mem_nil, or_false] at hp
  subst hp
  exact o18) (by intro p hp; cases hp)
theorem w34_pur : ∀ c, opens Ap c = true → PurEnv e34 c := mkEnv_pur _ _ (by intro p hp; cases hp)
theorem u34_18 : e34 (2 * 18) = pureFn true (FA fun a : TStamp × TStamp => p_laws_eqStamp a.1 a.2) := by
  unfold e34
  exact mkEnv_at (by rfl)
theorem o34 : PureOK Try.prog 34 true (FA fun a : TMark × TMark => p_laws_eqMarkOp a.1 a.2) := pure_tells e34_ok w34_pur (md := Md) (by kernel_rfl) (A := c_laws_eqMarkOp 18) (by kernel_rfl) (by
  rintro ⟨x, y⟩ b hb
  exact d_laws_eqMarkOp u34_18 x y hb)
noncomputable def e49 : Env := mkEnv [(18, true, FA fun a : TStamp × TStamp => p_laws_eqStamp a.1 a.2)] []
theorem e49_ok : EnvOK Try.prog e49 := mkEnv_ok (by
  intro p hp
  simp only [List.mem_cons, List.not_mem_nil, or_false] at hp
  subst hp
  exact o18) (by intro p hp; cases hp)
theorem w49_pur : ∀ c, opens Ap c = true → PurEnv e49 c := mkEnv_pur _ _ (by intro p hp; cases hp)
theorem u49_18 : e49 (2 * 18) = pureFn true (FA fun a : TStamp × TStamp => p_laws_eqStamp a.1 a.2) := by
  unfold e49
  exact mkEnv_at (by rfl)
theorem o49 : PureOK Try.prog 49 true (FA fun a : TLOp × TLOp => p_laws_eqLOp a.1 a.2) := pure_tells e49_ok w49_pur (md := Md) (by kernel_rfl) (A := c_laws_eqLOp 18) (by kernel_rfl) (by
  rintro ⟨x, y⟩ b hb
  exact d_laws_eqLOp u49_18 x y hb)
noncomputable def e15 : Env := mkEnv [(49, true, FA fun a : TLOp × TLOp => p_laws_eqLOp a.1 a.2)] []
theorem e15_ok : EnvOK Try.prog e15 := mkEnv_ok (by
  intro p hp
  simp only [List.mem_cons, List.not_mem_nil, or_false] at hp
  subst hp
  exact o49) (by intro p hp; cases hp)
theorem w15_pur : ∀ c, opens Ap c = true → PurEnv e15 c := mkEnv_pur _ _ (by intro p hp; cases hp)
theorem u15_49 : e15 (2 * 49) = pureFn true (FA fun a : TLOp × TLOp => p_laws_eqLOp a.1 a.2) := by
  unfold e15
  exact mkEnv_at (by rfl)
theorem o15 : PureOK Try.prog 15 true (FA fun a : List TLOp × List TLOp => p_laws_eqLOpS a.1 a.2) := pure_tells e15_ok w15_pur (md := Md) (by kernel_rfl) (A := c_laws_eqLOpS 49) (by kernel_rfl) (by
  rintro ⟨x, y⟩ b hb
  exact d_laws_eqLOpS u15_49 x y hb)
noncomputable def e35 : Env := mkEnv [(34, true, FA fun a : TMark × TMark => p_laws_eqMarkOp a.1 a.2)] []
theorem e35_ok : EnvOK Try.prog e35 := mkEnv_ok (by
  intro p hp
  simp only [List.mem_cons, List.not_mem_nil, or_false] at hp
  subst hp
  exact o34) (by intro p hp; cases hp)
theorem w35_pur : ∀ c, opens Ap c = true → PurEnv e35 c := mkEnv_pur _ _ (by intro p hp; cases hp)
theorem u35_34 : e35 (2 * 34) = pureFn true (FA fun a : TMark × TMark => p_laws_eqMarkOp a.1 a.2) := by
  unfold e35
  exact mkEnv_at (by rfl)
theorem o35 : PureOK Try.prog 35 true (FA fun a : List TMark × List TMark => p_laws_eqMarkOpS a.1 a.2) := pure_tells e35_ok w35_pur (md := Md) (by kernel_rfl) (A := c_laws_eqMarkOpS 34) (by kernel_rfl) (by
  rintro ⟨x, y⟩ b hb
  exact d_laws_eqMarkOpS u35_34 x y hb)
noncomputable def e8 : Env := mkEnv [(10, true, FA fun a : List TLOp × Int => p_laws_szLOpS a.1 a.2), (30, true, FA fun a : List TMark × Int => p_laws_szMarkOpS a.1 a.2), (12, true, FA fun a : List TLOp => p_laws_toLOpS a), (32, true, FA fun a : List TMark => p_laws_toMarkOpS a), (31, true, FA fun a : List TLOp × List TMark × Int × Int × Int × Int × Bool => p_spec_MarkText a.1 a.2.1 a.2.2.1 a.2.2.2.1 a.2.2.2.2.1 a.2.2.2.2.2.1 a.2.2.2.2.2.2), (33, true, FA fun a : List TLOp × List TMark × Int × Int × Int × Int × Bool => p_impl_MarkText a.1 a.2.1 a.2.2.1 a.2.2.2.1 a.2.2.2.2.1 a.2.2.2.2.2.1 a.2.2.2.2.2.2), (34, true, FA fun a : TMark × TMark => p_laws_eqMarkOp a.1 a.2), (15, true, FA fun a : List TLOp × List TLOp => p_laws_eqLOpS a.1 a.2), (35, true, FA fun a : List TMark × List TMark => p_laws_eqMarkOpS a.1 a.2)] [(12, (ownFn Try.prog e12 (c_laws_toLOpS 47))), (32, (ownFn Try.prog e32 (c_laws_toMarkOpS 60)))]
theorem e8_ok : EnvOK Try.prog e8 := mkEnv_ok (by
  intro p hp
  simp only [List.mem_cons, List.not_mem_nil, or_false] at hp
  rcases hp with rfl | rfl | rfl | rfl | rfl | rfl | rfl | rfl | rfl
  · exact o10
  · exact o30
  · exact o12
  · exact o32
  · exact o31
  · exact o33
  · exact o34
  · exact o15
  · exact o35) (by
  intro p hp
  simp only [List.mem_cons, List.not_mem_nil, or_false] at hp
  rcases hp with rfl | rfl
  · exact y12
  · exact y32)
theorem w8_pur : ∀ c, opens ApL c = true → PurEnv e8 c := mkEnv_pur _ _ (by
  intro p hp
  simp only [List.mem_cons, List.not_mem_nil, or_false] at hp
  rcases hp with rfl | rfl
  · intro h; exact absurd h (by rw [show ApL 12 = false from rfl]; exact Bool.false_ne_true)
  · intro h; exact absurd h (by rw [show ApL 32 = false from rfl]; exact Bool.false_ne_true))
theorem u8_10 : e8 (2 * 10) = pureFn true (FA fun a : List TLOp × Int => p_laws_szLOpS a.1 a.2) := by
  unfold e8
  exact mkEnv_at (by rfl)
theorem u8_30 : e8 (2 * 30) = pureFn true (FA fun a : List TMark × Int => p_laws_szMarkOpS a.1 a.2) := by
  unfold e8
  exact mkEnv_at (by rfl)
theorem u8_12 : e8 (2 * 12) = pureFn true (FA fun a : List TLOp => p_laws_toLOpS a) := by
  unfold e8
  exact mkEnv_at (by rfl)
theorem u8_32 : e8 (2 * 32) = pureFn true (FA fun a : List TMark => p_laws_toMarkOpS a) := by
  unfold e8
  exact mkEnv_at (by rfl)
theorem u8_31 : e8 (2 * 31) = pureFn true (FA fun a : List TLOp × List TMark × Int × Int × Int × Int × Bool => p_spec_MarkText a.1 a.2.1 a.2.2.1 a.2.2.2.1 a.2.2.2.2.1 a.2.2.2.2.2.1 a.2.2.2.2.2.2) := by
  unfold e8
  exact mkEnv_at (by rfl)
theorem u8_33 : e8 (2 * 33) = pureFn true (FA fun a : List TLOp × List TMark × Int × Int × Int × Int × Bool => p_impl_MarkText a.1 a.2.1 a.2.2.1 a.2.2.2.1 a.2.2.2.2.1 a.2.2.2.2.2.1 a.2.2.2.2.2.2) := by
  unfold e8
  exact mkEnv_at (by rfl)
theorem u8_34 : e8 (2 * 34) = pureFn true (FA fun a : TMark × TMark => p_laws_eqMarkOp a.1 a.2) := by
  unfold e8
  exact mkEnv_at (by rfl)
theorem u8_15 : e8 (2 * 15) = pureFn true (FA fun a : List TLOp × List TLOp => p_laws_eqLOpS a.1 a.2) := by
  unfold e8
  exact mkEnv_at (by rfl)
theorem u8_35 : e8 (2 * 35) = pureFn true (FA fun a : List TMark × List TMark => p_laws_eqMarkOpS a.1 a.2) := by
  unfold e8
  exact mkEnv_at (by rfl)
theorem x8_12 : k_laws_toLOpS (e8 (2 * 12 + 1)) := by
  unfold e8
  rw [mkEnv_own (g := (ownFn Try.prog e12 (c_laws_toLOpS 47))) (by rfl)]
  exact ko_laws_toLOpS u12_47
theorem x8_32 : k_laws_toMarkOpS (e8 (2 * 32 + 1)) := by
  unfold e8
  rw [mkEnv_own (g := (ownFn Try.prog e32 (c_laws_toMarkOpS 60))) (by rfl)]
  exact ko_laws_toMarkOpS u32_60
theorem law : LawOK Try.prog 8 [.sl 48 (.st [.int .i64, .int .i64, .st [.int .i64, .int .i64], .st [.int .i64, .int .i64]]), .sl 64 (.st [.st [.int .i64, .int .i64], .st [.int .i64, .int .i64], .st [.int .i64, .int .i64], .int .i64, .bool]), .int .i64, .int .i64, .int .i64, .int .i64, .bool] := law_of_run e8_ok w8_pur (md := MdL) (A := c_laws_FnExactMarkText 10 30 12 32 31 33 34 15 35) (by kernel_rfl) (by
  intro xs hx
  cases hx with
  | cons h0 hx =>
  cases hx with
  | cons h1 hx =>
  cases hx with
  | cons h2 hx =>
  cases hx with
  | cons h3 hx =>
  cases hx with
  | cons h4 hx =>
  cases hx with
  | cons h5 hx =>
  cases hx with
  | cons h6 hx =>
  cases hx
  obtain ⟨a0, rfl, k0⟩ := fit_sl (α := TLOp) rfl (fun x hx => fit_TLOp hx) h0
  obtain ⟨a1, rfl, k1⟩ := fit_sl (α := TMark) rfl (fun x hx => fit_TMark hx) h1
  obtain ⟨a2, rfl, k2⟩ := fit_int h2
  obtain ⟨a3, rfl, k3⟩ := fit_int h3
  obtain ⟨a4, rfl, k4⟩ := fit_int h4
  obtain ⟨a5, rfl, k5⟩ := fit_int h5
  obtain ⟨a6, rfl, k6⟩ := fit_boolT h6
  exact d_laws_FnExactMarkText u8_10 u8_30 u8_12 u8_32 u8_31 u8_33 u8_34 u8_15 u8_35 x8_12 x8_32 a0 a1 a2 a3 a4 a5 a6 (plain_MarkText a0 a1 a2 a3 a4 a5 a6 k0 k1 k2 k3 k4 k5 k6))
theorem own : ownKnob Try.prog.godebug = none := by kernel_rfl
theorem laidOut : laidOutB Try.prog = true := by kernel_rfl
set_option maxRecDepth 100000 in
theorem lifted (os : Os) (started : os.Started) (H : Type) (enc : TypeId × Value → H) :
    ReturnsInHanded {} Try.checked os 8 .any (Rows.fnExactMarkTextSpec.pre6 enc Try.prog Try.f8 Rows.fnExactMarkTextRow.domain false) (Rows.fnExactMarkTextSpec.post enc Try.prog Try.f8 false true false false) := by
  refine returnsInHanded_of_change_sized (C := Try.checked) own started (by kernel_rfl) Try.func8
    (ChangeSpec.witness6 (enc := enc) (C := Try.checked) false ⟨#[], #[.slice none 0 0, .slice none 0 0, .int .i64 0, .int .i64 0, .int .i64 0, .int .i64 0, .bool false], []⟩ 8 (by kernel_rfl) (by kernel_rfl) (by kernel_rfl) (by kernel_rfl)) ?_
  intro W base args ds gs before hval hW hcnd hsz _
  refine law_contract (n := 8) (tb := 4) (shs := [.sl 48 (.st [.int .i64, .int .i64, .st [.int .i64, .int .i64], .st [.int .i64, .int .i64]]), .sl 64 (.st [.st [.int .i64, .int .i64], .st [.int .i64, .int .i64], .st [.int .i64, .int .i64], .int .i64, .bool]), .int .i64, .int .i64, .int .i64, .int .i64, .bool]) laidOut rfl ?_ (by kernel_rfl) Try.underlying4 (by kernel_rfl) (by kernel_rfl) law W base args ds gs before hval hW hsz
  intro ds hds
  have h1 : ds.length = 7 := hds
  match ds, h1 with
  | [d0, d1, d2, d3, d4, d5, d6], _ => rfl
theorem over : Rows.fnExactMarkTextRow.holds Try.pinned (OpenSpec.ofChange Rows.fnExactMarkTextSpec) :=
  OpenClaim.holds_of_wide 8 Try.f8 rfl rfl rfl rfl rfl rfl rfl ⟨rfl, rfl, rfl, rfl, rfl⟩ rfl rfl rfl rfl rfl (by kernel_rfl) Try.func8 (by kernel_rfl)
    (of_decide_eq_true (by kernel_rfl)) (by unfold Func.isWrapper; first | (rw [if_pos (by decide +kernel)]; kernel_rfl) | (rw [if_neg (by decide +kernel)]; exact ⟨rfl, rfl⟩))
    (fun os started H enc _ => lifted os started H enc)
theorem proved : Rows.FnExactMarkTextSaid := over
#print axioms proved
end Go.Proofs.Ytbmeclcmcknbaaa.RFnExactMarkText
namespace Go.Proofs.Ytbmeclcmcknbaaa
/-- The row, under a short name, for the claim. -/
theorem fnExactMarkText_holds : Rows.FnExactMarkTextSaid := RFnExactMarkText.proved
end Go.Proofs.Ytbmeclcmcknbaaa
