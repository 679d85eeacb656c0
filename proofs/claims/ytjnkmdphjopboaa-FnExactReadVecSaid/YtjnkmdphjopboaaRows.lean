/-
  No cell of these rows narrows 'for every input' (looked for: loops, veiled, ifaces, maps, wideKeys, modest, calm, conditions, laid).
  DERIVED. THE GIVEN ROWS OF THIS SEAT. 12 by the template 'for every input the law returns true; each argument reads behind the call as it read before'; 0 by the template 'total and deterministic' (their statements: YtjnkmdphjopboaaTotals.lean).
  GIVEN WITH THE SEED: the statements are not yours to turn. If you find one false, say at which input.
  Laid BY PROGRAM, IN A SANDBOX (cutbox-rows.mjs): the forced cells as the released guide's own fill.sh prints them over the translation b7ae56b9a320307b… (all of the seat's roots in one cut). By AI agents, Wed Nov 11 2026. No macro, syntax, notation, axiom, sorry.
-/
import Derived.Test.YtjnkmdphjopboaaChecked
import GoSem.Claim
import GoSem.ClaimJoined
import GoSem.ClaimMapViews
import Derived.JoinedTies
import Derived.KernelRfl
namespace Go.Proofs.Ytjnkmdphjopboaa
/- THE CELL 'sum', in the pinned program and in every row, IS THE sha256 OF THE DUMP (.gsa) THAT YtjnkmdphjopboaaProg.lean LOADS. Nothing in Lean hashes anything: it is a label: what it is worth is what the hold of that sum in a sandbox is worth. -/
noncomputable def Try.pinned : Pinned := { name := "ytjnkmdphjopboaa", sum := "b7ae56b9a320307b5b69fa929ddfa9ae64db6d0b545d257333160479e9ec4214", checked := Try.checked }
namespace Rows
def none {H : Type} : Left H := { results := [], args := [] }

/-- 'laws.FnExactCounterValue': WHATEVER THE INPUT: true; the input reads as it did. -/
def fnExactCounterValueSpec : ChangeSpec := { name := "fnExactCounterValue", fn := fun _ => fun
  | [d] => { results := [.lit (.bool true)], args := [d] }
  | _ => none }
def fnExactCounterValueRow : OpenClaim := { program := "ytjnkmdphjopboaa", sum := "b7ae56b9a320307b5b69fa929ddfa9ae64db6d0b545d257333160479e9ec4214", func := "loop.example/g00028/laws.FnExactCounterValue", spec := "fnExactCounterValue", apart := false }
def FnExactCounterValueSaid : Prop := fnExactCounterValueRow.holds Try.pinned (OpenSpec.ofChange fnExactCounterValueSpec)

/-- ITS FALSE NEIGHBOUR: 'it returns false'. Refute it at one input. -/
def fnExactCounterValueWrong : ChangeSpec := { name := "fnExactCounterValue", fn := fun _ => fun
  | [d] => { results := [.lit (.bool false)], args := [d] }
  | _ => none }
def FnExactCounterValueWrongFalsely : Prop := fnExactCounterValueRow.holds Try.pinned (OpenSpec.ofChange fnExactCounterValueWrong)

/-- 'laws.FnExactVecJoin': WHATEVER THE INPUT: true; the input reads as it did. -/
def fnExactVecJoinSpec : ChangeSpec := { name := "fnExactVecJoin", fn := fun _ => fun
  | [d1, d2] => { results := [.lit (.bool true)], args := [d1, d2] }
  | _ => none }
def fnExactVecJoinRow : OpenClaim := { program := "ytjnkmdphjopboaa", sum := "b7ae56b9a320307b5b69fa929ddfa9ae64db6d0b545d257333160479e9ec4214", func := "loop.example/g00028/laws.FnExactVecJoin", spec := "fnExactVecJoin", apart := false }
def FnExactVecJoinSaid : Prop := fnExactVecJoinRow.holds Try.pinned (OpenSpec.ofChange fnExactVecJoinSpec)

/-- ITS FALSE NEIGHBOUR: 'it returns false'. Refute it at one input. -/
def fnExactVecJoinWrong : ChangeSpec := { name := "fnExactVecJoin", fn := fun _ => fun
  | [d1, d2] => { results := [.lit (.bool false)], args := [d1, d2] }
  | _ => none }
def FnExactVecJoinWrongFalsely : Prop := fnExactVecJoinRow.holds Try.pinned (OpenSpec.ofChange fnExactVecJoinWrong)

/-- 'laws.FnExactPutRuns': WHATEVER THE INPUT: true; the input reads as it did. -/
def fnExactPutRunsSpec : ChangeSpec := { name := "fnExactPutRuns", fn := fun _ => fun
  | [d] => { results := [.lit (.bool true)], args := [d] }
  | _ => none }
def fnExactPutRunsRow : OpenClaim := { program := "ytjnkmdphjopboaa", sum := "b7ae56b9a320307b5b69fa929ddfa9ae64db6d0b545d257333160479e9ec4214", func := "loop.example/g00028/laws.FnExactPutRuns", spec := "fnExactPutRuns", recurses := true, apart := false }
def FnExactPutRunsSaid : Prop := fnExactPutRunsRow.holds Try.pinned (OpenSpec.ofChange fnExactPutRunsSpec)

/-- ITS FALSE NEIGHBOUR: 'it returns false'. Refute it at one input. -/
def fnExactPutRunsWrong : ChangeSpec := { name := "fnExactPutRuns", fn := fun _ => fun
  | [d] => { results := [.lit (.bool false)], args := [d] }
  | _ => none }
def FnExactPutRunsWrongFalsely : Prop := fnExactPutRunsRow.holds Try.pinned (OpenSpec.ofChange fnExactPutRunsWrong)

/-- 'laws.FnExactVecBytes': WHATEVER THE INPUT: true; the input reads as it did. -/
def fnExactVecBytesSpec : ChangeSpec := { name := "fnExactVecBytes", fn := fun _ => fun
  | [d] => { results := [.lit (.bool true)], args := [d] }
  | _ => none }
def fnExactVecBytesRow : OpenClaim := { program := "ytjnkmdphjopboaa", sum := "b7ae56b9a320307b5b69fa929ddfa9ae64db6d0b545d257333160479e9ec4214", func := "loop.example/g00028/laws.FnExactVecBytes", spec := "fnExactVecBytes", recurses := true, apart := false }
def FnExactVecBytesSaid : Prop := fnExactVecBytesRow.holds Try.pinned (OpenSpec.ofChange fnExactVecBytesSpec)

/-- ITS FALSE NEIGHBOUR: 'it returns false'. Refute it at one input. -/
def fnExactVecBytesWrong : ChangeSpec := { name := "fnExactVecBytes", fn := fun _ => fun
  | [d] => { results := [.lit (.bool false)], args := [d] }
  | _ => none }
def FnExactVecBytesWrongFalsely : Prop := fnExactVecBytesRow.holds Try.pinned (OpenSpec.ofChange fnExactVecBytesWrong)

/-- 'laws.FnExactCounterJoin': WHATEVER THE INPUT: true; the input reads as it did. -/
def fnExactCounterJoinSpec : ChangeSpec := { name := "fnExactCounterJoin", fn := fun _ => fun
  | [d1, d2] => { results := [.lit (.bool true)], args := [d1, d2] }
  | _ => none }
def fnExactCounterJoinRow : OpenClaim := { program := "ytjnkmdphjopboaa", sum := "b7ae56b9a320307b5b69fa929ddfa9ae64db6d0b545d257333160479e9ec4214", func := "loop.example/g00028/laws.FnExactCounterJoin", spec := "fnExactCounterJoin", apart := false }
def FnExactCounterJoinSaid : Prop := fnExactCounterJoinRow.holds Try.pinned (OpenSpec.ofChange fnExactCounterJoinSpec)

/-- ITS FALSE NEIGHBOUR: 'it returns false'. Refute it at one input. -/
def fnExactCounterJoinWrong : ChangeSpec := { name := "fnExactCounterJoin", fn := fun _ => fun
  | [d1, d2] => { results := [.lit (.bool false)], args := [d1, d2] }
  | _ => none }
def FnExactCounterJoinWrongFalsely : Prop := fnExactCounterJoinRow.holds Try.pinned (OpenSpec.ofChange fnExactCounterJoinWrong)

/-- 'laws.FnExactPutTexts': WHATEVER THE INPUT: true; the input reads as it did. -/
def fnExactPutTextsSpec : ChangeSpec := { name := "fnExactPutTexts", fn := fun _ => fun
  | [d] => { results := [.lit (.bool true)], args := [d] }
  | _ => none }
def fnExactPutTextsRow : OpenClaim := { program := "ytjnkmdphjopboaa", sum := "b7ae56b9a320307b5b69fa929ddfa9ae64db6d0b545d257333160479e9ec4214", func := "loop.example/g00028/laws.FnExactPutTexts", spec := "fnExactPutTexts", recurses := true, apart := false }
def FnExactPutTextsSaid : Prop := fnExactPutTextsRow.holds Try.pinned (OpenSpec.ofChange fnExactPutTextsSpec)

/-- ITS FALSE NEIGHBOUR: 'it returns false'. Refute it at one input. -/
def fnExactPutTextsWrong : ChangeSpec := { name := "fnExactPutTexts", fn := fun _ => fun
  | [d] => { results := [.lit (.bool false)], args := [d] }
  | _ => none }
def FnExactPutTextsWrongFalsely : Prop := fnExactPutTextsRow.holds Try.pinned (OpenSpec.ofChange fnExactPutTextsWrong)

/-- 'laws.FnExactLensJoin': WHATEVER THE INPUT: true; the input reads as it did. -/
def fnExactLensJoinSpec : ChangeSpec := { name := "fnExactLensJoin", fn := fun _ => fun
  | [d1, d2] => { results := [.lit (.bool true)], args := [d1, d2] }
  | _ => none }
def fnExactLensJoinRow : OpenClaim := { program := "ytjnkmdphjopboaa", sum := "b7ae56b9a320307b5b69fa929ddfa9ae64db6d0b545d257333160479e9ec4214", func := "loop.example/g00028/laws.FnExactLensJoin", spec := "fnExactLensJoin", apart := false }
def FnExactLensJoinSaid : Prop := fnExactLensJoinRow.holds Try.pinned (OpenSpec.ofChange fnExactLensJoinSpec)

/-- ITS FALSE NEIGHBOUR: 'it returns false'. Refute it at one input. -/
def fnExactLensJoinWrong : ChangeSpec := { name := "fnExactLensJoin", fn := fun _ => fun
  | [d1, d2] => { results := [.lit (.bool false)], args := [d1, d2] }
  | _ => none }
def FnExactLensJoinWrongFalsely : Prop := fnExactLensJoinRow.holds Try.pinned (OpenSpec.ofChange fnExactLensJoinWrong)

/-- 'laws.FnExactCounterAdd': WHATEVER THE INPUT: true; the input reads as it did. -/
def fnExactCounterAddSpec : ChangeSpec := { name := "fnExactCounterAdd", fn := fun _ => fun
  | [d1, d2, d3] => { results := [.lit (.bool true)], args := [d1, d2, d3] }
  | _ => none }
def fnExactCounterAddRow : OpenClaim := { program := "ytjnkmdphjopboaa", sum := "b7ae56b9a320307b5b69fa929ddfa9ae64db6d0b545d257333160479e9ec4214", func := "loop.example/g00028/laws.FnExactCounterAdd", spec := "fnExactCounterAdd", apart := false }
def FnExactCounterAddSaid : Prop := fnExactCounterAddRow.holds Try.pinned (OpenSpec.ofChange fnExactCounterAddSpec)

/-- ITS FALSE NEIGHBOUR: 'it returns false'. Refute it at one input. -/
def fnExactCounterAddWrong : ChangeSpec := { name := "fnExactCounterAdd", fn := fun _ => fun
  | [d1, d2, d3] => { results := [.lit (.bool false)], args := [d1, d2, d3] }
  | _ => none }
def FnExactCounterAddWrongFalsely : Prop := fnExactCounterAddRow.holds Try.pinned (OpenSpec.ofChange fnExactCounterAddWrong)

/-- 'laws.FnExactReadVec': WHATEVER THE INPUT: true; the input reads as it did. -/
def fnExactReadVecSpec : ChangeSpec := { name := "fnExactReadVec", fn := fun _ => fun
  | [d] => { results := [.lit (.bool true)], args := [d] }
  | _ => none }
def fnExactReadVecRow : OpenClaim := { program := "ytjnkmdphjopboaa", sum := "b7ae56b9a320307b5b69fa929ddfa9ae64db6d0b545d257333160479e9ec4214", func := "loop.example/g00028/laws.FnExactReadVec", spec := "fnExactReadVec", recurses := true, apart := false }
def FnExactReadVecSaid : Prop := fnExactReadVecRow.holds Try.pinned (OpenSpec.ofChange fnExactReadVecSpec)

/-- ITS FALSE NEIGHBOUR: 'it returns false'. Refute it at one input. -/
def fnExactReadVecWrong : ChangeSpec := { name := "fnExactReadVec", fn := fun _ => fun
  | [d] => { results := [.lit (.bool false)], args := [d] }
  | _ => none }
def FnExactReadVecWrongFalsely : Prop := fnExactReadVecRow.holds Try.pinned (OpenSpec.ofChange fnExactReadVecWrong)

/-- 'laws.FnExactLensFlip': WHATEVER THE INPUT: true; the input reads as it did. -/
def fnExactLensFlipSpec : ChangeSpec := { name := "fnExactLensFlip", fn := fun _ => fun
  | [d] => { results := [.lit (.bool true)], args := [d] }
  | _ => none }
def fnExactLensFlipRow : OpenClaim := { program := "ytjnkmdphjopboaa", sum := "b7ae56b9a320307b5b69fa929ddfa9ae64db6d0b545d257333160479e9ec4214", func := "loop.example/g00028/laws.FnExactLensFlip", spec := "fnExactLensFlip", apart := false }
def FnExactLensFlipSaid : Prop := fnExactLensFlipRow.holds Try.pinned (OpenSpec.ofChange fnExactLensFlipSpec)

/-- ITS FALSE NEIGHBOUR: 'it returns false'. Refute it at one input. -/
def fnExactLensFlipWrong : ChangeSpec := { name := "fnExactLensFlip", fn := fun _ => fun
  | [d] => { results := [.lit (.bool false)], args := [d] }
  | _ => none }
def FnExactLensFlipWrongFalsely : Prop := fnExactLensFlipRow.holds Try.pinned (OpenSpec.ofChange fnExactLensFlipWrong)

/-- 'laws.FnExactGetRuns': WHATEVER THE INPUT: true; the input reads as it did. -/
def fnExactGetRunsSpec : ChangeSpec := { name := "fnExactGetRuns", fn := fun _ => fun
  | [d] => { results := [.lit (.bool true)], args := [d] }
  | _ => none }
def fnExactGetRunsRow : OpenClaim := { program := "ytjnkmdphjopboaa", sum := "b7ae56b9a320307b5b69fa929ddfa9ae64db6d0b545d257333160479e9ec4214", func := "loop.example/g00028/laws.FnExactGetRuns", spec := "fnExactGetRuns", recurses := true, apart := false }
def FnExactGetRunsSaid : Prop := fnExactGetRunsRow.holds Try.pinned (OpenSpec.ofChange fnExactGetRunsSpec)

/-- ITS FALSE NEIGHBOUR: 'it returns false'. Refute it at one input. -/
def fnExactGetRunsWrong : ChangeSpec := { name := "fnExactGetRuns", fn := fun _ => fun
  | [d] => { results := [.lit (.bool false)], args := [d] }
  | _ => none }
def FnExactGetRunsWrongFalsely : Prop := fnExactGetRunsRow.holds Try.pinned (OpenSpec.ofChange fnExactGetRunsWrong)

/-- 'laws.FnExactSetRemove': WHATEVER THE INPUT: true; the input reads as it did. -/
def fnExactSetRemoveSpec : ChangeSpec := { name := "fnExactSetRemove", fn := fun _ => fun
  | [d1, d2] => { results := [.lit (.bool true)], args := [d1, d2] }
  | _ => none }
def fnExactSetRemoveRow : OpenClaim := { program := "ytjnkmdphjopboaa", sum := "b7ae56b9a320307b5b69fa929ddfa9ae64db6d0b545d257333160479e9ec4214", func := "loop.example/g00028/laws.FnExactSetRemove", spec := "fnExactSetRemove", apart := false }
def FnExactSetRemoveSaid : Prop := fnExactSetRemoveRow.holds Try.pinned (OpenSpec.ofChange fnExactSetRemoveSpec)

/-- ITS FALSE NEIGHBOUR: 'it returns false'. Refute it at one input. -/
def fnExactSetRemoveWrong : ChangeSpec := { name := "fnExactSetRemove", fn := fun _ => fun
  | [d1, d2] => { results := [.lit (.bool false)], args := [d1, d2] }
  | _ => none }
def FnExactSetRemoveWrongFalsely : Prop := fnExactSetRemoveRow.holds Try.pinned (OpenSpec.ofChange fnExactSetRemoveWrong)

/- THE SECOND FORM. 'bulk': how many values and letters a reading holds, each counted each time it is reached (what is shared counts as often as it is met; a slice's spare places count too). A statement '..UptoSaid' is the law's where the arguments, and the package variables that the reading takes, are together of bulk at most 1048576: NARROWER than '..Said'. Prove '..Said' where nothing that the law and all that it calls make is longer than what came in: it says more and counts as full. Else prove '..UptoSaid'. A law counts once. -/
mutual
def uptoBulk {H : Type} : DataW H → Nat
  | .lit (.string bytes) => bytes.length + 1
  | .lit _ => 1
  | .nil => 1
  | .ptr d => uptoBulk d + 1
  | .slice elems spare => uptoBulkAll elems + uptoBulkAll spare + 1
  | .agg parts => uptoBulkAll parts + 1
  | .iface _ d => uptoBulk d + 1
  | .map entries => uptoBulkEntries entries + 1
  | .held _ => 1
def uptoBulkAll {H : Type} : List (DataW H) → Nat
  | [] => 0
  | d :: r => uptoBulk d + uptoBulkAll r
def uptoBulkEntries {H : Type} : List (Lit × DataW H) → Nat
  | [] => 0
  | x :: r => uptoBulkEntry x + uptoBulkEntries r
def uptoBulkEntry {H : Type} : Lit × DataW H → Nat
  | (.string bytes, d) => bytes.length + uptoBulk d + 1
  | (_, d) => uptoBulk d + 1
 end
def uptoSmall : (H : Type) → List (DataW H) → Bool := fun _ ds => decide (uptoBulkAll ds ≤ 1048576)
def OpenSpec.upto (s : _root_.Go.ChangeSpec) : _root_.Go.OpenSpec := { _root_.Go.OpenSpec.ofChange s with cond := some uptoSmall }

/-- 'laws.FnExactCounterValue', WHERE WHAT IT READS IS OF BULK AT MOST 1048576: true; the input reads as it did. -/
def fnExactCounterValueUptoRow : OpenClaim := { program := "ytjnkmdphjopboaa", sum := "b7ae56b9a320307b5b69fa929ddfa9ae64db6d0b545d257333160479e9ec4214", func := "loop.example/g00028/laws.FnExactCounterValue", spec := "fnExactCounterValue", apart := false, narrowed := true }
def FnExactCounterValueUptoSaid : Prop := fnExactCounterValueUptoRow.holds Try.pinned (OpenSpec.upto fnExactCounterValueSpec)

/-- 'laws.FnExactVecJoin', WHERE WHAT IT READS IS OF BULK AT MOST 1048576: true; the input reads as it did. -/
def fnExactVecJoinUptoRow : OpenClaim := { program := "ytjnkmdphjopboaa", sum := "b7ae56b9a320307b5b69fa929ddfa9ae64db6d0b545d257333160479e9ec4214", func := "loop.example/g00028/laws.FnExactVecJoin", spec := "fnExactVecJoin", apart := false, narrowed := true }
def FnExactVecJoinUptoSaid : Prop := fnExactVecJoinUptoRow.holds Try.pinned (OpenSpec.upto fnExactVecJoinSpec)

/-- 'laws.FnExactPutRuns', WHERE WHAT IT READS IS OF BULK AT MOST 1048576: true; the input reads as it did. -/
def fnExactPutRunsUptoRow : OpenClaim := { program := "ytjnkmdphjopboaa", sum := "b7ae56b9a320307b5b69fa929ddfa9ae64db6d0b545d257333160479e9ec4214", func := "loop.example/g00028/laws.FnExactPutRuns", spec := "fnExactPutRuns", recurses := true, apart := false, narrowed := true }
def FnExactPutRunsUptoSaid : Prop := fnExactPutRunsUptoRow.holds Try.pinned (OpenSpec.upto fnExactPutRunsSpec)

/-- 'laws.FnExactVecBytes', WHERE WHAT IT READS IS OF BULK AT MOST 1048576: true; the input reads as it did. -/
def fnExactVecBytesUptoRow : OpenClaim := { program := "ytjnkmdphjopboaa", sum := "b7ae56b9a320307b5b69fa929ddfa9ae64db6d0b545d257333160479e9ec4214", func := "loop.example/g00028/laws.FnExactVecBytes", spec := "fnExactVecBytes", recurses := true, apart := false, narrowed := true }
def FnExactVecBytesUptoSaid : Prop := fnExactVecBytesUptoRow.holds Try.pinned (OpenSpec.upto fnExactVecBytesSpec)

/-- 'laws.FnExactCounterJoin', WHERE WHAT IT READS IS OF BULK AT MOST 1048576: true; the input reads as it did. -/
def fnExactCounterJoinUptoRow : OpenClaim := { program := "ytjnkmdphjopboaa", sum := "b7ae56b9a320307b5b69fa929ddfa9ae64db6d0b545d257333160479e9ec4214", func := "loop.example/g00028/laws.FnExactCounterJoin", spec := "fnExactCounterJoin", apart := false, narrowed := true }
def FnExactCounterJoinUptoSaid : Prop := fnExactCounterJoinUptoRow.holds Try.pinned (OpenSpec.upto fnExactCounterJoinSpec)

/-- 'laws.FnExactPutTexts', WHERE WHAT IT READS IS OF BULK AT MOST 1048576: true; the input reads as it did. -/
def fnExactPutTextsUptoRow : OpenClaim := { program := "ytjnkmdphjopboaa", sum := "b7ae56b9a320307b5b69fa929ddfa9ae64db6d0b545d257333160479e9ec4214", func := "loop.example/g00028/laws.FnExactPutTexts", spec := "fnExactPutTexts", recurses := true, apart := false, narrowed := true }
def FnExactPutTextsUptoSaid : Prop := fnExactPutTextsUptoRow.holds Try.pinned (OpenSpec.upto fnExactPutTextsSpec)

/-- 'laws.FnExactLensJoin', WHERE WHAT IT READS IS OF BULK AT MOST 1048576: true; the input reads as it did. -/
def fnExactLensJoinUptoRow : OpenClaim := { program := "ytjnkmdphjopboaa", sum := "b7ae56b9a320307b5b69fa929ddfa9ae64db6d0b545d257333160479e9ec4214", func := "loop.example/g00028/laws.FnExactLensJoin", spec := "fnExactLensJoin", apart := false, narrowed := true }
def FnExactLensJoinUptoSaid : Prop := fnExactLensJoinUptoRow.holds Try.pinned (OpenSpec.upto fnExactLensJoinSpec)

/-- 'laws.FnExactCounterAdd', WHERE WHAT IT READS IS OF BULK AT MOST 1048576: true; the input reads as it did. -/
def fnExactCounterAddUptoRow : OpenClaim := { program := "ytjnkmdphjopboaa", sum := "b7ae56b9a320307b5b69fa929ddfa9ae64db6d0b545d257333160479e9ec4214", func := "loop.example/g00028/laws.FnExactCounterAdd", spec := "fnExactCounterAdd", apart := false, narrowed := true }
def FnExactCounterAddUptoSaid : Prop := fnExactCounterAddUptoRow.holds Try.pinned (OpenSpec.upto fnExactCounterAddSpec)

/-- 'laws.FnExactReadVec', WHERE WHAT IT READS IS OF BULK AT MOST 1048576: true; the input reads as it did. -/
def fnExactReadVecUptoRow : OpenClaim := { program := "ytjnkmdphjopboaa", sum := "b7ae56b9a320307b5b69fa929ddfa9ae64db6d0b545d257333160479e9ec4214", func := "loop.example/g00028/laws.FnExactReadVec", spec := "fnExactReadVec", recurses := true, apart := false, narrowed := true }
def FnExactReadVecUptoSaid : Prop := fnExactReadVecUptoRow.holds Try.pinned (OpenSpec.upto fnExactReadVecSpec)

/-- 'laws.FnExactLensFlip', WHERE WHAT IT READS IS OF BULK AT MOST 1048576: true; the input reads as it did. -/
def fnExactLensFlipUptoRow : OpenClaim := { program := "ytjnkmdphjopboaa", sum := "b7ae56b9a320307b5b69fa929ddfa9ae64db6d0b545d257333160479e9ec4214", func := "loop.example/g00028/laws.FnExactLensFlip", spec := "fnExactLensFlip", apart := false, narrowed := true }
def FnExactLensFlipUptoSaid : Prop := fnExactLensFlipUptoRow.holds Try.pinned (OpenSpec.upto fnExactLensFlipSpec)

/-- 'laws.FnExactGetRuns', WHERE WHAT IT READS IS OF BULK AT MOST 1048576: true; the input reads as it did. -/
def fnExactGetRunsUptoRow : OpenClaim := { program := "ytjnkmdphjopboaa", sum := "b7ae56b9a320307b5b69fa929ddfa9ae64db6d0b545d257333160479e9ec4214", func := "loop.example/g00028/laws.FnExactGetRuns", spec := "fnExactGetRuns", recurses := true, apart := false, narrowed := true }
def FnExactGetRunsUptoSaid : Prop := fnExactGetRunsUptoRow.holds Try.pinned (OpenSpec.upto fnExactGetRunsSpec)

/-- 'laws.FnExactSetRemove', WHERE WHAT IT READS IS OF BULK AT MOST 1048576: true; the input reads as it did. -/
def fnExactSetRemoveUptoRow : OpenClaim := { program := "ytjnkmdphjopboaa", sum := "b7ae56b9a320307b5b69fa929ddfa9ae64db6d0b545d257333160479e9ec4214", func := "loop.example/g00028/laws.FnExactSetRemove", spec := "fnExactSetRemove", apart := false, narrowed := true }
def FnExactSetRemoveUptoSaid : Prop := fnExactSetRemoveUptoRow.holds Try.pinned (OpenSpec.upto fnExactSetRemoveSpec)

end Rows
end Go.Proofs.Ytjnkmdphjopboaa
