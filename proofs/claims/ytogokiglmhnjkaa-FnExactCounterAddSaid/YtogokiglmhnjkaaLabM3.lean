/- Further rules of the walk: blocks kept free, maps. No condition. -/
import Derived.Test.YtogokiglmhnjkaaLabB37
set_option linter.unusedVariables false
namespace Go.AM
open Pic (enc dec dec_enc dec_sub)
open PicA (encA decA decA_encA decA_sub)

theorem at_ge {h l : Heap} {b : Nat} (hb : h.length ≤ b) : (h ++ l)[b]? = l[b - h.length]? := List.getElem?_append_right hb
theorem at_left {h l : Heap} {b : Nat} (hb : b < h.length) : (h ++ l)[b]? = h[b]? := List.getElem?_append_left hb
theorem at_set_ne {h : Heap} {b c : Nat} {s : Slot} (hb : c ≠ b) : (h.set c s)[b]? = h[b]? := List.getElem?_set_ne hb
theorem at_set_eq {h : Heap} {b : Nat} {s : Slot} (hb : b < h.length) : (h.set b s)[b]? = some s := List.getElem?_set_self hb
theorem free_lt {h : Heap} {b : Nat} {s : Slot} (hb : h[b]? = some s) : b < h.length := (List.getElem?_eq_some_iff.1 hb).1
theorem free_keep2 {h h' : Heap} {B : List Nat} {b : Nat} {s : Slot} (hk : Keep B h h') (hb : h[b]? = some s) (hn : b ∉ B) : h'[b]? = some s := (hk.at_ b (free_lt hb) hn).trans hb
theorem W_qR {P : Program} {env : Env} {t : Nat → V} {h : Heap} {Q : Post} {b0 d : Nat} {op : AOp} {l : List AOper} : @WR P env b0 ⟨(qS d op :: l)⟩ t h ⟨Q⟩ = @S P env ⟨op⟩ t h ⟨fun v h' => @WR P env b0 ⟨l⟩ (put t (some d) v) h' ⟨Q⟩⟩ := WR_op
theorem gm : type_of% (And.intro (And.intro (And.intro (And.intro @gx @W_opsR) (And.intro @WR_nil @WR_op)) (And.intro (And.intro @WR_ops @WR_opa) (And.intro @W_qR (And.intro @SS_alloc @SS_makeMap)))) (And.intro (And.intro (And.intro @SS_makeSl @S_makeMap) (And.intro @S_lookup (And.intro @S_mapSet @S_del))) (And.intro (And.intro @S_mlen @at_ge) (And.intro @at_left (And.intro @at_set_ne @at_set_eq))))) := (And.intro (And.intro (And.intro (And.intro @gx @W_opsR) (And.intro @WR_nil @WR_op)) (And.intro (And.intro @WR_ops @WR_opa) (And.intro @W_qR (And.intro @SS_alloc @SS_makeMap)))) (And.intro (And.intro (And.intro @SS_makeSl @S_makeMap) (And.intro @S_lookup (And.intro @S_mapSet @S_del))) (And.intro (And.intro @S_mlen @at_ge) (And.intro @at_left (And.intro @at_set_ne @at_set_eq)))))
end Go.AM
