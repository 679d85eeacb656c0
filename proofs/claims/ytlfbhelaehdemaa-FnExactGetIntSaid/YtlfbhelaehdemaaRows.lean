/-
  No cell of these rows narrows 'for every input' (looked for: loops, veiled, ifaces, maps, wideKeys, modest, calm, conditions, laid).
  DERIVED. THE GIVEN ROWS OF THIS SEAT. 12 by the template 'for every input the law returns true; each argument reads behind the call as it read before'; 0 by the template 'total and deterministic' (their statements: YtlfbhelaehdemaaTotals.lean).
  GIVEN WITH THE SEED: the statements are not yours to turn. If you find one false, say at which input.
  Laid BY PROGRAM, IN A SANDBOX (cutbox-rows.mjs): the forced cells as the released guide's own fill.sh prints them over the translation 7cdd86e0f059a8bc… (all of the seat's roots in one cut). By AI agents, Wed Nov 11 2026. No macro, syntax, notation, axiom, sorry.
-/
import Derived.Test.YtlfbhelaehdemaaChecked
import GoSem.Claim
import GoSem.ClaimJoined
import GoSem.ClaimMapViews
import Derived.JoinedTies
import Derived.KernelRfl
namespace Go.Proofs.Ytlfbhelaehdemaa
/- THE CELL 'sum', in the pinned program and in every row, IS THE sha256 OF THE DUMP (.gsa) THAT YtlfbhelaehdemaaProg.lean LOADS. Nothing in Lean hashes anything: it is a label: what it is worth is what the hold of that sum in a sandbox is worth. -/
noncomputable def Try.pinned : Pinned := { name := "ytlfbhelaehdemaa", sum := "7cdd86e0f059a8bc0d83e26431eef008c73f206ea528196a1a0484bfebbc64d4", checked := Try.checked }
namespace Rows
def none {H : Type} : Left H := { results := [], args := [] }

/-- 'laws.FnExactConstants': WHATEVER THE INPUT: true; the input reads as it did. -/
def fnExactConstantsSpec : ChangeSpec := { name := "fnExactConstants", fn := fun _ => fun
  | [] => { results := [.lit (.bool true)], args := [] }
  | _ => none }
def fnExactConstantsRow : OpenClaim := { program := "ytlfbhelaehdemaa", sum := "7cdd86e0f059a8bc0d83e26431eef008c73f206ea528196a1a0484bfebbc64d4", func := "loop.example/g00028/laws.FnExactConstants", spec := "fnExactConstants", apart := false }
def FnExactConstantsSaid : Prop := fnExactConstantsRow.holds Try.pinned (OpenSpec.ofChange fnExactConstantsSpec)

/-- ITS FALSE NEIGHBOUR: 'it returns false'. Refute it at one input. -/
def fnExactConstantsWrong : ChangeSpec := { name := "fnExactConstants", fn := fun _ => fun
  | [] => { results := [.lit (.bool false)], args := [] }
  | _ => none }
def FnExactConstantsWrongFalsely : Prop := fnExactConstantsRow.holds Try.pinned (OpenSpec.ofChange fnExactConstantsWrong)

/-- 'laws.FnExactStampOK': WHATEVER THE INPUT: true; the input reads as it did. -/
def fnExactStampOKSpec : ChangeSpec := { name := "fnExactStampOK", fn := fun _ => fun
  | [d] => { results := [.lit (.bool true)], args := [d] }
  | _ => none }
def fnExactStampOKRow : OpenClaim := { program := "ytlfbhelaehdemaa", sum := "7cdd86e0f059a8bc0d83e26431eef008c73f206ea528196a1a0484bfebbc64d4", func := "loop.example/g00028/laws.FnExactStampOK", spec := "fnExactStampOK", apart := false }
def FnExactStampOKSaid : Prop := fnExactStampOKRow.holds Try.pinned (OpenSpec.ofChange fnExactStampOKSpec)

/-- ITS FALSE NEIGHBOUR: 'it returns false'. Refute it at one input. -/
def fnExactStampOKWrong : ChangeSpec := { name := "fnExactStampOK", fn := fun _ => fun
  | [d] => { results := [.lit (.bool false)], args := [d] }
  | _ => none }
def FnExactStampOKWrongFalsely : Prop := fnExactStampOKRow.holds Try.pinned (OpenSpec.ofChange fnExactStampOKWrong)

/-- 'laws.FnExactStampLess': WHATEVER THE INPUT: true; the input reads as it did. -/
def fnExactStampLessSpec : ChangeSpec := { name := "fnExactStampLess", fn := fun _ => fun
  | [d1, d2] => { results := [.lit (.bool true)], args := [d1, d2] }
  | _ => none }
def fnExactStampLessRow : OpenClaim := { program := "ytlfbhelaehdemaa", sum := "7cdd86e0f059a8bc0d83e26431eef008c73f206ea528196a1a0484bfebbc64d4", func := "loop.example/g00028/laws.FnExactStampLess", spec := "fnExactStampLess", apart := false }
def FnExactStampLessSaid : Prop := fnExactStampLessRow.holds Try.pinned (OpenSpec.ofChange fnExactStampLessSpec)

/-- ITS FALSE NEIGHBOUR: 'it returns false'. Refute it at one input. -/
def fnExactStampLessWrong : ChangeSpec := { name := "fnExactStampLess", fn := fun _ => fun
  | [d1, d2] => { results := [.lit (.bool false)], args := [d1, d2] }
  | _ => none }
def FnExactStampLessWrongFalsely : Prop := fnExactStampLessRow.holds Try.pinned (OpenSpec.ofChange fnExactStampLessWrong)

/-- 'laws.FnExactSum32': WHATEVER THE INPUT: true; the input reads as it did. -/
def fnExactSum32Spec : ChangeSpec := { name := "fnExactSum32", fn := fun _ => fun
  | [d] => { results := [.lit (.bool true)], args := [d] }
  | _ => none }
def fnExactSum32Row : OpenClaim := { program := "ytlfbhelaehdemaa", sum := "7cdd86e0f059a8bc0d83e26431eef008c73f206ea528196a1a0484bfebbc64d4", func := "loop.example/g00028/laws.FnExactSum32", spec := "fnExactSum32", apart := false }
def FnExactSum32Said : Prop := fnExactSum32Row.holds Try.pinned (OpenSpec.ofChange fnExactSum32Spec)

/-- ITS FALSE NEIGHBOUR: 'it returns false'. Refute it at one input. -/
def fnExactSum32Wrong : ChangeSpec := { name := "fnExactSum32", fn := fun _ => fun
  | [d] => { results := [.lit (.bool false)], args := [d] }
  | _ => none }
def FnExactSum32WrongFalsely : Prop := fnExactSum32Row.holds Try.pinned (OpenSpec.ofChange fnExactSum32Wrong)

/-- 'laws.FnExactPutInt': WHATEVER THE INPUT: true; the input reads as it did. -/
def fnExactPutIntSpec : ChangeSpec := { name := "fnExactPutInt", fn := fun _ => fun
  | [d] => { results := [.lit (.bool true)], args := [d] }
  | _ => none }
def fnExactPutIntRow : OpenClaim := { program := "ytlfbhelaehdemaa", sum := "7cdd86e0f059a8bc0d83e26431eef008c73f206ea528196a1a0484bfebbc64d4", func := "loop.example/g00028/laws.FnExactPutInt", spec := "fnExactPutInt", recurses := true, apart := false }
def FnExactPutIntSaid : Prop := fnExactPutIntRow.holds Try.pinned (OpenSpec.ofChange fnExactPutIntSpec)

/-- ITS FALSE NEIGHBOUR: 'it returns false'. Refute it at one input. -/
def fnExactPutIntWrong : ChangeSpec := { name := "fnExactPutInt", fn := fun _ => fun
  | [d] => { results := [.lit (.bool false)], args := [d] }
  | _ => none }
def FnExactPutIntWrongFalsely : Prop := fnExactPutIntRow.holds Try.pinned (OpenSpec.ofChange fnExactPutIntWrong)

/-- 'laws.FnExactVecOK': WHATEVER THE INPUT: true; the input reads as it did. -/
def fnExactVecOKSpec : ChangeSpec := { name := "fnExactVecOK", fn := fun _ => fun
  | [d] => { results := [.lit (.bool true)], args := [d] }
  | _ => none }
def fnExactVecOKRow : OpenClaim := { program := "ytlfbhelaehdemaa", sum := "7cdd86e0f059a8bc0d83e26431eef008c73f206ea528196a1a0484bfebbc64d4", func := "loop.example/g00028/laws.FnExactVecOK", spec := "fnExactVecOK", apart := false }
def FnExactVecOKSaid : Prop := fnExactVecOKRow.holds Try.pinned (OpenSpec.ofChange fnExactVecOKSpec)

/-- ITS FALSE NEIGHBOUR: 'it returns false'. Refute it at one input. -/
def fnExactVecOKWrong : ChangeSpec := { name := "fnExactVecOK", fn := fun _ => fun
  | [d] => { results := [.lit (.bool false)], args := [d] }
  | _ => none }
def FnExactVecOKWrongFalsely : Prop := fnExactVecOKRow.holds Try.pinned (OpenSpec.ofChange fnExactVecOKWrong)

/-- 'laws.FnExactRegJoin': WHATEVER THE INPUT: true; the input reads as it did. -/
def fnExactRegJoinSpec : ChangeSpec := { name := "fnExactRegJoin", fn := fun _ => fun
  | [d1, d2] => { results := [.lit (.bool true)], args := [d1, d2] }
  | _ => none }
def fnExactRegJoinRow : OpenClaim := { program := "ytlfbhelaehdemaa", sum := "7cdd86e0f059a8bc0d83e26431eef008c73f206ea528196a1a0484bfebbc64d4", func := "loop.example/g00028/laws.FnExactRegJoin", spec := "fnExactRegJoin", apart := false }
def FnExactRegJoinSaid : Prop := fnExactRegJoinRow.holds Try.pinned (OpenSpec.ofChange fnExactRegJoinSpec)

/-- ITS FALSE NEIGHBOUR: 'it returns false'. Refute it at one input. -/
def fnExactRegJoinWrong : ChangeSpec := { name := "fnExactRegJoin", fn := fun _ => fun
  | [d1, d2] => { results := [.lit (.bool false)], args := [d1, d2] }
  | _ => none }
def FnExactRegJoinWrongFalsely : Prop := fnExactRegJoinRow.holds Try.pinned (OpenSpec.ofChange fnExactRegJoinWrong)

/-- 'laws.FnExactKeySum': WHATEVER THE INPUT: true; the input reads as it did. -/
def fnExactKeySumSpec : ChangeSpec := { name := "fnExactKeySum", fn := fun _ => fun
  | [d1, d2] => { results := [.lit (.bool true)], args := [d1, d2] }
  | _ => none }
def fnExactKeySumRow : OpenClaim := { program := "ytlfbhelaehdemaa", sum := "7cdd86e0f059a8bc0d83e26431eef008c73f206ea528196a1a0484bfebbc64d4", func := "loop.example/g00028/laws.FnExactKeySum", spec := "fnExactKeySum", apart := false }
def FnExactKeySumSaid : Prop := fnExactKeySumRow.holds Try.pinned (OpenSpec.ofChange fnExactKeySumSpec)

/-- ITS FALSE NEIGHBOUR: 'it returns false'. Refute it at one input. -/
def fnExactKeySumWrong : ChangeSpec := { name := "fnExactKeySum", fn := fun _ => fun
  | [d1, d2] => { results := [.lit (.bool false)], args := [d1, d2] }
  | _ => none }
def FnExactKeySumWrongFalsely : Prop := fnExactKeySumRow.holds Try.pinned (OpenSpec.ofChange fnExactKeySumWrong)

/-- 'laws.FnExactGetInt': WHATEVER THE INPUT: true; the input reads as it did. -/
def fnExactGetIntSpec : ChangeSpec := { name := "fnExactGetInt", fn := fun _ => fun
  | [d1, d2] => { results := [.lit (.bool true)], args := [d1, d2] }
  | _ => none }
def fnExactGetIntRow : OpenClaim := { program := "ytlfbhelaehdemaa", sum := "7cdd86e0f059a8bc0d83e26431eef008c73f206ea528196a1a0484bfebbc64d4", func := "loop.example/g00028/laws.FnExactGetInt", spec := "fnExactGetInt", apart := false }
def FnExactGetIntSaid : Prop := fnExactGetIntRow.holds Try.pinned (OpenSpec.ofChange fnExactGetIntSpec)

/-- ITS FALSE NEIGHBOUR: 'it returns false'. Refute it at one input. -/
def fnExactGetIntWrong : ChangeSpec := { name := "fnExactGetInt", fn := fun _ => fun
  | [d1, d2] => { results := [.lit (.bool false)], args := [d1, d2] }
  | _ => none }
def FnExactGetIntWrongFalsely : Prop := fnExactGetIntRow.holds Try.pinned (OpenSpec.ofChange fnExactGetIntWrong)

/-- 'laws.FnExactVecOrder': WHATEVER THE INPUT: true; the input reads as it did. -/
def fnExactVecOrderSpec : ChangeSpec := { name := "fnExactVecOrder", fn := fun _ => fun
  | [d1, d2] => { results := [.lit (.bool true)], args := [d1, d2] }
  | _ => none }
def fnExactVecOrderRow : OpenClaim := { program := "ytlfbhelaehdemaa", sum := "7cdd86e0f059a8bc0d83e26431eef008c73f206ea528196a1a0484bfebbc64d4", func := "loop.example/g00028/laws.FnExactVecOrder", spec := "fnExactVecOrder", apart := false }
def FnExactVecOrderSaid : Prop := fnExactVecOrderRow.holds Try.pinned (OpenSpec.ofChange fnExactVecOrderSpec)

/-- ITS FALSE NEIGHBOUR: 'it returns false'. Refute it at one input. -/
def fnExactVecOrderWrong : ChangeSpec := { name := "fnExactVecOrder", fn := fun _ => fun
  | [d1, d2] => { results := [.lit (.bool false)], args := [d1, d2] }
  | _ => none }
def FnExactVecOrderWrongFalsely : Prop := fnExactVecOrderRow.holds Try.pinned (OpenSpec.ofChange fnExactVecOrderWrong)

/-- 'laws.FnExactStampNext': WHATEVER THE INPUT: true; the input reads as it did. -/
def fnExactStampNextSpec : ChangeSpec := { name := "fnExactStampNext", fn := fun _ => fun
  | [d1, d2] => { results := [.lit (.bool true)], args := [d1, d2] }
  | _ => none }
def fnExactStampNextRow : OpenClaim := { program := "ytlfbhelaehdemaa", sum := "7cdd86e0f059a8bc0d83e26431eef008c73f206ea528196a1a0484bfebbc64d4", func := "loop.example/g00028/laws.FnExactStampNext", spec := "fnExactStampNext", apart := false }
def FnExactStampNextSaid : Prop := fnExactStampNextRow.holds Try.pinned (OpenSpec.ofChange fnExactStampNextSpec)

/-- ITS FALSE NEIGHBOUR: 'it returns false'. Refute it at one input. -/
def fnExactStampNextWrong : ChangeSpec := { name := "fnExactStampNext", fn := fun _ => fun
  | [d1, d2] => { results := [.lit (.bool false)], args := [d1, d2] }
  | _ => none }
def FnExactStampNextWrongFalsely : Prop := fnExactStampNextRow.holds Try.pinned (OpenSpec.ofChange fnExactStampNextWrong)

/-- 'laws.FnExactVecMeet': WHATEVER THE INPUT: true; the input reads as it did. -/
def fnExactVecMeetSpec : ChangeSpec := { name := "fnExactVecMeet", fn := fun _ => fun
  | [d1, d2] => { results := [.lit (.bool true)], args := [d1, d2] }
  | _ => none }
def fnExactVecMeetRow : OpenClaim := { program := "ytlfbhelaehdemaa", sum := "7cdd86e0f059a8bc0d83e26431eef008c73f206ea528196a1a0484bfebbc64d4", func := "loop.example/g00028/laws.FnExactVecMeet", spec := "fnExactVecMeet", apart := false }
def FnExactVecMeetSaid : Prop := fnExactVecMeetRow.holds Try.pinned (OpenSpec.ofChange fnExactVecMeetSpec)

/-- ITS FALSE NEIGHBOUR: 'it returns false'. Refute it at one input. -/
def fnExactVecMeetWrong : ChangeSpec := { name := "fnExactVecMeet", fn := fun _ => fun
  | [d1, d2] => { results := [.lit (.bool false)], args := [d1, d2] }
  | _ => none }
def FnExactVecMeetWrongFalsely : Prop := fnExactVecMeetRow.holds Try.pinned (OpenSpec.ofChange fnExactVecMeetWrong)

/- THE SECOND FORM. 'bulk': how many values and letters a reading holds, each counted each time it is reached (what is shared counts as often as it is met; a slice's spare places count too). A statement '..UptoSaid' is the law's where the arguments, and the package variables that the reading takes, are together of bulk at most 1048576: NARROWER than '..Said'. Prove '..Said' where nothing that the law and all that it calls make is longer than what came in: it says more and counts as full. Else prove '..UptoSaid'. A law counts once. -/
mutual
def uptoBulk {H : Type} : DataW H → Nat
  | .lit (.string bytes) => bytes.length + 1
  | .lit _ => 1
  | .nil => 1
  | .ptr d => uptoBulk d + 1
  | .slice elems spare => uptoBulkAll elems + uptoBulkAll spare + 1
  | .agg parts => uptoBulkAll parts + 1
  | .iface _ d => uptoBulk d + 1
  | .map entries => uptoBulkEntries entries + 1
  | .held _ => 1
def uptoBulkAll {H : Type} : List (DataW H) → Nat
  | [] => 0
  | d :: r => uptoBulk d + uptoBulkAll r
def uptoBulkEntries {H : Type} : List (Lit × DataW H) → Nat
  | [] => 0
  | x :: r => uptoBulkEntry x + uptoBulkEntries r
def uptoBulkEntry {H : Type} : Lit × DataW H → Nat
  | (.string bytes, d) => bytes.length + uptoBulk d + 1
  | (_, d) => uptoBulk d + 1
 end
def uptoSmall : (H : Type) → List (DataW H) → Bool := fun _ ds => decide (uptoBulkAll ds ≤ 1048576)
def OpenSpec.upto (s : _root_.Go.ChangeSpec) : _root_.Go.OpenSpec := { _root_.Go.OpenSpec.ofChange s with cond := some uptoSmall }

/-- 'laws.FnExactConstants', WHERE WHAT IT READS IS OF BULK AT MOST 1048576: true; the input reads as it did. -/
def fnExactConstantsUptoRow : OpenClaim := { program := "ytlfbhelaehdemaa", sum := "7cdd86e0f059a8bc0d83e26431eef008c73f206ea528196a1a0484bfebbc64d4", func := "loop.example/g00028/laws.FnExactConstants", spec := "fnExactConstants", apart := false, narrowed := true }
def FnExactConstantsUptoSaid : Prop := fnExactConstantsUptoRow.holds Try.pinned (OpenSpec.upto fnExactConstantsSpec)

/-- 'laws.FnExactStampOK', WHERE WHAT IT READS IS OF BULK AT MOST 1048576: true; the input reads as it did. -/
def fnExactStampOKUptoRow : OpenClaim := { program := "ytlfbhelaehdemaa", sum := "7cdd86e0f059a8bc0d83e26431eef008c73f206ea528196a1a0484bfebbc64d4", func := "loop.example/g00028/laws.FnExactStampOK", spec := "fnExactStampOK", apart := false, narrowed := true }
def FnExactStampOKUptoSaid : Prop := fnExactStampOKUptoRow.holds Try.pinned (OpenSpec.upto fnExactStampOKSpec)

/-- 'laws.FnExactStampLess', WHERE WHAT IT READS IS OF BULK AT MOST 1048576: true; the input reads as it did. -/
def fnExactStampLessUptoRow : OpenClaim := { program := "ytlfbhelaehdemaa", sum := "7cdd86e0f059a8bc0d83e26431eef008c73f206ea528196a1a0484bfebbc64d4", func := "loop.example/g00028/laws.FnExactStampLess", spec := "fnExactStampLess", apart := false, narrowed := true }
def FnExactStampLessUptoSaid : Prop := fnExactStampLessUptoRow.holds Try.pinned (OpenSpec.upto fnExactStampLessSpec)

/-- 'laws.FnExactSum32', WHERE WHAT IT READS IS OF BULK AT MOST 1048576: true; the input reads as it did. -/
def fnExactSum32UptoRow : OpenClaim := { program := "ytlfbhelaehdemaa", sum := "7cdd86e0f059a8bc0d83e26431eef008c73f206ea528196a1a0484bfebbc64d4", func := "loop.example/g00028/laws.FnExactSum32", spec := "fnExactSum32", apart := false, narrowed := true }
def FnExactSum32UptoSaid : Prop := fnExactSum32UptoRow.holds Try.pinned (OpenSpec.upto fnExactSum32Spec)

/-- 'laws.FnExactPutInt', WHERE WHAT IT READS IS OF BULK AT MOST 1048576: true; the input reads as it did. -/
def fnExactPutIntUptoRow : OpenClaim := { program := "ytlfbhelaehdemaa", sum := "7cdd86e0f059a8bc0d83e26431eef008c73f206ea528196a1a0484bfebbc64d4", func := "loop.example/g00028/laws.FnExactPutInt", spec := "fnExactPutInt", recurses := true, apart := false, narrowed := true }
def FnExactPutIntUptoSaid : Prop := fnExactPutIntUptoRow.holds Try.pinned (OpenSpec.upto fnExactPutIntSpec)

/-- 'laws.FnExactVecOK', WHERE WHAT IT READS IS OF BULK AT MOST 1048576: true; the input reads as it did. -/
def fnExactVecOKUptoRow : OpenClaim := { program := "ytlfbhelaehdemaa", sum := "7cdd86e0f059a8bc0d83e26431eef008c73f206ea528196a1a0484bfebbc64d4", func := "loop.example/g00028/laws.FnExactVecOK", spec := "fnExactVecOK", apart := false, narrowed := true }
def FnExactVecOKUptoSaid : Prop := fnExactVecOKUptoRow.holds Try.pinned (OpenSpec.upto fnExactVecOKSpec)

/-- 'laws.FnExactRegJoin', WHERE WHAT IT READS IS OF BULK AT MOST 1048576: true; the input reads as it did. -/
def fnExactRegJoinUptoRow : OpenClaim := { program := "ytlfbhelaehdemaa", sum := "7cdd86e0f059a8bc0d83e26431eef008c73f206ea528196a1a0484bfebbc64d4", func := "loop.example/g00028/laws.FnExactRegJoin", spec := "fnExactRegJoin", apart := false, narrowed := true }
def FnExactRegJoinUptoSaid : Prop := fnExactRegJoinUptoRow.holds Try.pinned (OpenSpec.upto fnExactRegJoinSpec)

/-- 'laws.FnExactKeySum', WHERE WHAT IT READS IS OF BULK AT MOST 1048576: true; the input reads as it did. -/
def fnExactKeySumUptoRow : OpenClaim := { program := "ytlfbhelaehdemaa", sum := "7cdd86e0f059a8bc0d83e26431eef008c73f206ea528196a1a0484bfebbc64d4", func := "loop.example/g00028/laws.FnExactKeySum", spec := "fnExactKeySum", apart := false, narrowed := true }
def FnExactKeySumUptoSaid : Prop := fnExactKeySumUptoRow.holds Try.pinned (OpenSpec.upto fnExactKeySumSpec)

/-- 'laws.FnExactGetInt', WHERE WHAT IT READS IS OF BULK AT MOST 1048576: true; the input reads as it did. -/
def fnExactGetIntUptoRow : OpenClaim := { program := "ytlfbhelaehdemaa", sum := "7cdd86e0f059a8bc0d83e26431eef008c73f206ea528196a1a0484bfebbc64d4", func := "loop.example/g00028/laws.FnExactGetInt", spec := "fnExactGetInt", apart := false, narrowed := true }
def FnExactGetIntUptoSaid : Prop := fnExactGetIntUptoRow.holds Try.pinned (OpenSpec.upto fnExactGetIntSpec)

/-- 'laws.FnExactVecOrder', WHERE WHAT IT READS IS OF BULK AT MOST 1048576: true; the input reads as it did. -/
def fnExactVecOrderUptoRow : OpenClaim := { program := "ytlfbhelaehdemaa", sum := "7cdd86e0f059a8bc0d83e26431eef008c73f206ea528196a1a0484bfebbc64d4", func := "loop.example/g00028/laws.FnExactVecOrder", spec := "fnExactVecOrder", apart := false, narrowed := true }
def FnExactVecOrderUptoSaid : Prop := fnExactVecOrderUptoRow.holds Try.pinned (OpenSpec.upto fnExactVecOrderSpec)

/-- 'laws.FnExactStampNext', WHERE WHAT IT READS IS OF BULK AT MOST 1048576: true; the input reads as it did. -/
def fnExactStampNextUptoRow : OpenClaim := { program := "ytlfbhelaehdemaa", sum := "7cdd86e0f059a8bc0d83e26431eef008c73f206ea528196a1a0484bfebbc64d4", func := "loop.example/g00028/laws.FnExactStampNext", spec := "fnExactStampNext", apart := false, narrowed := true }
def FnExactStampNextUptoSaid : Prop := fnExactStampNextUptoRow.holds Try.pinned (OpenSpec.upto fnExactStampNextSpec)

/-- 'laws.FnExactVecMeet', WHERE WHAT IT READS IS OF BULK AT MOST 1048576: true; the input reads as it did. -/
def fnExactVecMeetUptoRow : OpenClaim := { program := "ytlfbhelaehdemaa", sum := "7cdd86e0f059a8bc0d83e26431eef008c73f206ea528196a1a0484bfebbc64d4", func := "loop.example/g00028/laws.FnExactVecMeet", spec := "fnExactVecMeet", apart := false, narrowed := true }
def FnExactVecMeetUptoSaid : Prop := fnExactVecMeetUptoRow.holds Try.pinned (OpenSpec.upto fnExactVecMeetSpec)

end Rows
end Go.Proofs.Ytlfbhelaehdemaa
