/-
  No cell of these rows narrows 'for every input' (looked for: loops, veiled, ifaces, maps, wideKeys, modest, calm, conditions, laid).
  DERIVED. THE GIVEN ROWS OF THIS SEAT. 12 by the template 'for every input the law returns true; each argument reads behind the call as it read before'; 0 by the template 'total and deterministic' (their statements: YtiabacjkejkbgaaTotals.lean).
  GIVEN WITH THE SEED: the statements are not yours to turn. If you find one false, say at which input.
  Laid BY PROGRAM, IN A SANDBOX (cutbox-rows.mjs): the forced cells as the released guide's own fill.sh prints them over the translation a85268afb0ad99e7… (all of the seat's roots in one cut). By AI agents, Wed Nov 11 2026. No macro, syntax, notation, axiom, sorry.
-/
import Derived.Test.YtiabacjkejkbgaaChecked
import GoSem.Claim
import GoSem.ClaimJoined
import GoSem.ClaimMapViews
import Derived.JoinedTies
import Derived.KernelRfl
namespace Go.Proofs.Ytiabacjkejkbgaa
/- THE CELL 'sum', in the pinned program and in every row, IS THE sha256 OF THE DUMP (.gsa) THAT YtiabacjkejkbgaaProg.lean LOADS. Nothing in Lean hashes anything: it is a label: what it is worth is what the hold of that sum in a sandbox is worth. -/
noncomputable def Try.pinned : Pinned := { name := "ytiabacjkejkbgaa", sum := "a85268afb0ad99e7048d1a20cf2a77b1f89954c50ec7d7ef852a3e7483644a3e", checked := Try.checked }
namespace Rows
def none {H : Type} : Left H := { results := [], args := [] }

/-- 'laws.FnExactLogOK': WHATEVER THE INPUT: true; the input reads as it did. -/
def fnExactLogOKSpec : ChangeSpec := { name := "fnExactLogOK", fn := fun _ => fun
  | [d] => { results := [.lit (.bool true)], args := [d] }
  | _ => none }
def fnExactLogOKRow : OpenClaim := { program := "ytiabacjkejkbgaa", sum := "a85268afb0ad99e7048d1a20cf2a77b1f89954c50ec7d7ef852a3e7483644a3e", func := "loop.example/g00028/laws.FnExactLogOK", spec := "fnExactLogOK", plainKeys := false, apart := false }
def FnExactLogOKSaid : Prop := fnExactLogOKRow.holds Try.pinned (OpenSpec.ofChange fnExactLogOKSpec)

/-- ITS FALSE NEIGHBOUR: 'it returns false'. Refute it at one input. -/
def fnExactLogOKWrong : ChangeSpec := { name := "fnExactLogOK", fn := fun _ => fun
  | [d] => { results := [.lit (.bool false)], args := [d] }
  | _ => none }
def FnExactLogOKWrongFalsely : Prop := fnExactLogOKRow.holds Try.pinned (OpenSpec.ofChange fnExactLogOKWrong)

/-- 'laws.FnExactLogVector': WHATEVER THE INPUT: true; the input reads as it did. -/
def fnExactLogVectorSpec : ChangeSpec := { name := "fnExactLogVector", fn := fun _ => fun
  | [d] => { results := [.lit (.bool true)], args := [d] }
  | _ => none }
def fnExactLogVectorRow : OpenClaim := { program := "ytiabacjkejkbgaa", sum := "a85268afb0ad99e7048d1a20cf2a77b1f89954c50ec7d7ef852a3e7483644a3e", func := "loop.example/g00028/laws.FnExactLogVector", spec := "fnExactLogVector", plainKeys := false, apart := false }
def FnExactLogVectorSaid : Prop := fnExactLogVectorRow.holds Try.pinned (OpenSpec.ofChange fnExactLogVectorSpec)

/-- ITS FALSE NEIGHBOUR: 'it returns false'. Refute it at one input. -/
def fnExactLogVectorWrong : ChangeSpec := { name := "fnExactLogVector", fn := fun _ => fun
  | [d] => { results := [.lit (.bool false)], args := [d] }
  | _ => none }
def FnExactLogVectorWrongFalsely : Prop := fnExactLogVectorRow.holds Try.pinned (OpenSpec.ofChange fnExactLogVectorWrong)

/-- 'laws.FnExactDocObjects': WHATEVER THE INPUT: true; the input reads as it did. -/
def fnExactDocObjectsSpec : ChangeSpec := { name := "fnExactDocObjects", fn := fun _ => fun
  | [d] => { results := [.lit (.bool true)], args := [d] }
  | _ => none }
def fnExactDocObjectsRow : OpenClaim := { program := "ytiabacjkejkbgaa", sum := "a85268afb0ad99e7048d1a20cf2a77b1f89954c50ec7d7ef852a3e7483644a3e", func := "loop.example/g00028/laws.FnExactDocObjects", spec := "fnExactDocObjects", plainKeys := false, apart := false }
def FnExactDocObjectsSaid : Prop := fnExactDocObjectsRow.holds Try.pinned (OpenSpec.ofChange fnExactDocObjectsSpec)

/-- ITS FALSE NEIGHBOUR: 'it returns false'. Refute it at one input. -/
def fnExactDocObjectsWrong : ChangeSpec := { name := "fnExactDocObjects", fn := fun _ => fun
  | [d] => { results := [.lit (.bool false)], args := [d] }
  | _ => none }
def FnExactDocObjectsWrongFalsely : Prop := fnExactDocObjectsRow.holds Try.pinned (OpenSpec.ofChange fnExactDocObjectsWrong)

/-- 'laws.FnExactUndoDone': WHATEVER THE INPUT: true; the input reads as it did. -/
def fnExactUndoDoneSpec : ChangeSpec := { name := "fnExactUndoDone", fn := fun _ => fun
  | [d1, d2] => { results := [.lit (.bool true)], args := [d1, d2] }
  | _ => none }
def fnExactUndoDoneRow : OpenClaim := { program := "ytiabacjkejkbgaa", sum := "a85268afb0ad99e7048d1a20cf2a77b1f89954c50ec7d7ef852a3e7483644a3e", func := "loop.example/g00028/laws.FnExactUndoDone", spec := "fnExactUndoDone", plainKeys := false, apart := false }
def FnExactUndoDoneSaid : Prop := fnExactUndoDoneRow.holds Try.pinned (OpenSpec.ofChange fnExactUndoDoneSpec)

/-- ITS FALSE NEIGHBOUR: 'it returns false'. Refute it at one input. -/
def fnExactUndoDoneWrong : ChangeSpec := { name := "fnExactUndoDone", fn := fun _ => fun
  | [d1, d2] => { results := [.lit (.bool false)], args := [d1, d2] }
  | _ => none }
def FnExactUndoDoneWrongFalsely : Prop := fnExactUndoDoneRow.holds Try.pinned (OpenSpec.ofChange fnExactUndoDoneWrong)

/-- 'laws.FnExactLogSince': WHATEVER THE INPUT: true; the input reads as it did. -/
def fnExactLogSinceSpec : ChangeSpec := { name := "fnExactLogSince", fn := fun _ => fun
  | [d1, d2] => { results := [.lit (.bool true)], args := [d1, d2] }
  | _ => none }
def fnExactLogSinceRow : OpenClaim := { program := "ytiabacjkejkbgaa", sum := "a85268afb0ad99e7048d1a20cf2a77b1f89954c50ec7d7ef852a3e7483644a3e", func := "loop.example/g00028/laws.FnExactLogSince", spec := "fnExactLogSince", plainKeys := false, apart := false }
def FnExactLogSinceSaid : Prop := fnExactLogSinceRow.holds Try.pinned (OpenSpec.ofChange fnExactLogSinceSpec)

/-- ITS FALSE NEIGHBOUR: 'it returns false'. Refute it at one input. -/
def fnExactLogSinceWrong : ChangeSpec := { name := "fnExactLogSince", fn := fun _ => fun
  | [d1, d2] => { results := [.lit (.bool false)], args := [d1, d2] }
  | _ => none }
def FnExactLogSinceWrongFalsely : Prop := fnExactLogSinceRow.holds Try.pinned (OpenSpec.ofChange fnExactLogSinceWrong)

/-- 'laws.FnExactBranchBase': WHATEVER THE INPUT: true; the input reads as it did. -/
def fnExactBranchBaseSpec : ChangeSpec := { name := "fnExactBranchBase", fn := fun _ => fun
  | [d1, d2] => { results := [.lit (.bool true)], args := [d1, d2] }
  | _ => none }
def fnExactBranchBaseRow : OpenClaim := { program := "ytiabacjkejkbgaa", sum := "a85268afb0ad99e7048d1a20cf2a77b1f89954c50ec7d7ef852a3e7483644a3e", func := "loop.example/g00028/laws.FnExactBranchBase", spec := "fnExactBranchBase", plainKeys := false, apart := false }
def FnExactBranchBaseSaid : Prop := fnExactBranchBaseRow.holds Try.pinned (OpenSpec.ofChange fnExactBranchBaseSpec)

/-- ITS FALSE NEIGHBOUR: 'it returns false'. Refute it at one input. -/
def fnExactBranchBaseWrong : ChangeSpec := { name := "fnExactBranchBase", fn := fun _ => fun
  | [d1, d2] => { results := [.lit (.bool false)], args := [d1, d2] }
  | _ => none }
def FnExactBranchBaseWrongFalsely : Prop := fnExactBranchBaseRow.holds Try.pinned (OpenSpec.ofChange fnExactBranchBaseWrong)

/-- 'laws.FnExactLogAt': WHATEVER THE INPUT: true; the input reads as it did. -/
def fnExactLogAtSpec : ChangeSpec := { name := "fnExactLogAt", fn := fun _ => fun
  | [d1, d2] => { results := [.lit (.bool true)], args := [d1, d2] }
  | _ => none }
def fnExactLogAtRow : OpenClaim := { program := "ytiabacjkejkbgaa", sum := "a85268afb0ad99e7048d1a20cf2a77b1f89954c50ec7d7ef852a3e7483644a3e", func := "loop.example/g00028/laws.FnExactLogAt", spec := "fnExactLogAt", plainKeys := false, apart := false }
def FnExactLogAtSaid : Prop := fnExactLogAtRow.holds Try.pinned (OpenSpec.ofChange fnExactLogAtSpec)

/-- ITS FALSE NEIGHBOUR: 'it returns false'. Refute it at one input. -/
def fnExactLogAtWrong : ChangeSpec := { name := "fnExactLogAt", fn := fun _ => fun
  | [d1, d2] => { results := [.lit (.bool false)], args := [d1, d2] }
  | _ => none }
def FnExactLogAtWrongFalsely : Prop := fnExactLogAtRow.holds Try.pinned (OpenSpec.ofChange fnExactLogAtWrong)

/-- 'laws.FnExactBranchAhead': WHATEVER THE INPUT: true; the input reads as it did. -/
def fnExactBranchAheadSpec : ChangeSpec := { name := "fnExactBranchAhead", fn := fun _ => fun
  | [d1, d2] => { results := [.lit (.bool true)], args := [d1, d2] }
  | _ => none }
def fnExactBranchAheadRow : OpenClaim := { program := "ytiabacjkejkbgaa", sum := "a85268afb0ad99e7048d1a20cf2a77b1f89954c50ec7d7ef852a3e7483644a3e", func := "loop.example/g00028/laws.FnExactBranchAhead", spec := "fnExactBranchAhead", plainKeys := false, apart := false }
def FnExactBranchAheadSaid : Prop := fnExactBranchAheadRow.holds Try.pinned (OpenSpec.ofChange fnExactBranchAheadSpec)

/-- ITS FALSE NEIGHBOUR: 'it returns false'. Refute it at one input. -/
def fnExactBranchAheadWrong : ChangeSpec := { name := "fnExactBranchAhead", fn := fun _ => fun
  | [d1, d2] => { results := [.lit (.bool false)], args := [d1, d2] }
  | _ => none }
def FnExactBranchAheadWrongFalsely : Prop := fnExactBranchAheadRow.holds Try.pinned (OpenSpec.ofChange fnExactBranchAheadWrong)

/-- 'laws.FnExactSketchOf': WHATEVER THE INPUT: true; the input reads as it did. -/
def fnExactSketchOfSpec : ChangeSpec := { name := "fnExactSketchOf", fn := fun _ => fun
  | [d] => { results := [.lit (.bool true)], args := [d] }
  | _ => none }
def fnExactSketchOfRow : OpenClaim := { program := "ytiabacjkejkbgaa", sum := "a85268afb0ad99e7048d1a20cf2a77b1f89954c50ec7d7ef852a3e7483644a3e", func := "loop.example/g00028/laws.FnExactSketchOf", spec := "fnExactSketchOf", plainKeys := false, apart := false }
def FnExactSketchOfSaid : Prop := fnExactSketchOfRow.holds Try.pinned (OpenSpec.ofChange fnExactSketchOfSpec)

/-- ITS FALSE NEIGHBOUR: 'it returns false'. Refute it at one input. -/
def fnExactSketchOfWrong : ChangeSpec := { name := "fnExactSketchOf", fn := fun _ => fun
  | [d] => { results := [.lit (.bool false)], args := [d] }
  | _ => none }
def FnExactSketchOfWrongFalsely : Prop := fnExactSketchOfRow.holds Try.pinned (OpenSpec.ofChange fnExactSketchOfWrong)

/-- 'laws.FnExactBranchMerge': WHATEVER THE INPUT: true; the input reads as it did. -/
def fnExactBranchMergeSpec : ChangeSpec := { name := "fnExactBranchMerge", fn := fun _ => fun
  | [d1, d2] => { results := [.lit (.bool true)], args := [d1, d2] }
  | _ => none }
def fnExactBranchMergeRow : OpenClaim := { program := "ytiabacjkejkbgaa", sum := "a85268afb0ad99e7048d1a20cf2a77b1f89954c50ec7d7ef852a3e7483644a3e", func := "loop.example/g00028/laws.FnExactBranchMerge", spec := "fnExactBranchMerge", plainKeys := false, apart := false }
def FnExactBranchMergeSaid : Prop := fnExactBranchMergeRow.holds Try.pinned (OpenSpec.ofChange fnExactBranchMergeSpec)

/-- ITS FALSE NEIGHBOUR: 'it returns false'. Refute it at one input. -/
def fnExactBranchMergeWrong : ChangeSpec := { name := "fnExactBranchMerge", fn := fun _ => fun
  | [d1, d2] => { results := [.lit (.bool false)], args := [d1, d2] }
  | _ => none }
def FnExactBranchMergeWrongFalsely : Prop := fnExactBranchMergeRow.holds Try.pinned (OpenSpec.ofChange fnExactBranchMergeWrong)

/-- 'laws.FnExactSketchDiff': WHATEVER THE INPUT: true; the input reads as it did. -/
def fnExactSketchDiffSpec : ChangeSpec := { name := "fnExactSketchDiff", fn := fun _ => fun
  | [d1, d2] => { results := [.lit (.bool true)], args := [d1, d2] }
  | _ => none }
def fnExactSketchDiffRow : OpenClaim := { program := "ytiabacjkejkbgaa", sum := "a85268afb0ad99e7048d1a20cf2a77b1f89954c50ec7d7ef852a3e7483644a3e", func := "loop.example/g00028/laws.FnExactSketchDiff", spec := "fnExactSketchDiff", recurses := true, plainKeys := false, apart := false }
def FnExactSketchDiffSaid : Prop := fnExactSketchDiffRow.holds Try.pinned (OpenSpec.ofChange fnExactSketchDiffSpec)

/-- ITS FALSE NEIGHBOUR: 'it returns false'. Refute it at one input. -/
def fnExactSketchDiffWrong : ChangeSpec := { name := "fnExactSketchDiff", fn := fun _ => fun
  | [d1, d2] => { results := [.lit (.bool false)], args := [d1, d2] }
  | _ => none }
def FnExactSketchDiffWrongFalsely : Prop := fnExactSketchDiffRow.holds Try.pinned (OpenSpec.ofChange fnExactSketchDiffWrong)

/-- 'laws.FnExactLogAdd': WHATEVER THE INPUT: true; the input reads as it did. -/
def fnExactLogAddSpec : ChangeSpec := { name := "fnExactLogAdd", fn := fun _ => fun
  | [d1, d2] => { results := [.lit (.bool true)], args := [d1, d2] }
  | _ => none }
def fnExactLogAddRow : OpenClaim := { program := "ytiabacjkejkbgaa", sum := "a85268afb0ad99e7048d1a20cf2a77b1f89954c50ec7d7ef852a3e7483644a3e", func := "loop.example/g00028/laws.FnExactLogAdd", spec := "fnExactLogAdd", plainKeys := false, apart := false }
def FnExactLogAddSaid : Prop := fnExactLogAddRow.holds Try.pinned (OpenSpec.ofChange fnExactLogAddSpec)

/-- ITS FALSE NEIGHBOUR: 'it returns false'. Refute it at one input. -/
def fnExactLogAddWrong : ChangeSpec := { name := "fnExactLogAdd", fn := fun _ => fun
  | [d1, d2] => { results := [.lit (.bool false)], args := [d1, d2] }
  | _ => none }
def FnExactLogAddWrongFalsely : Prop := fnExactLogAddRow.holds Try.pinned (OpenSpec.ofChange fnExactLogAddWrong)

/- THE SECOND FORM. 'bulk': how many values and letters a reading holds, each counted each time it is reached (what is shared counts as often as it is met; a slice's spare places count too). A statement '..UptoSaid' is the law's where the arguments, and the package variables that the reading takes, are together of bulk at most 1048576: NARROWER than '..Said'. Prove '..Said' where nothing that the law and all that it calls make is longer than what came in: it says more and counts as full. Else prove '..UptoSaid'. A law counts once. -/
mutual
def uptoBulk {H : Type} : DataW H → Nat
  | .lit (.string bytes) => bytes.length + 1
  | .lit _ => 1
  | .nil => 1
  | .ptr d => uptoBulk d + 1
  | .slice elems spare => uptoBulkAll elems + uptoBulkAll spare + 1
  | .agg parts => uptoBulkAll parts + 1
  | .iface _ d => uptoBulk d + 1
  | .map entries => uptoBulkEntries entries + 1
  | .held _ => 1
def uptoBulkAll {H : Type} : List (DataW H) → Nat
  | [] => 0
  | d :: r => uptoBulk d + uptoBulkAll r
def uptoBulkEntries {H : Type} : List (Lit × DataW H) → Nat
  | [] => 0
  | x :: r => uptoBulkEntry x + uptoBulkEntries r
def uptoBulkEntry {H : Type} : Lit × DataW H → Nat
  | (.string bytes, d) => bytes.length + uptoBulk d + 1
  | (_, d) => uptoBulk d + 1
 end
def uptoSmall : (H : Type) → List (DataW H) → Bool := fun _ ds => decide (uptoBulkAll ds ≤ 1048576)
def OpenSpec.upto (s : _root_.Go.ChangeSpec) : _root_.Go.OpenSpec := { _root_.Go.OpenSpec.ofChange s with cond := some uptoSmall }

/-- 'laws.FnExactLogOK', WHERE WHAT IT READS IS OF BULK AT MOST 1048576: true; the input reads as it did. -/
def fnExactLogOKUptoRow : OpenClaim := { program := "ytiabacjkejkbgaa", sum := "a85268afb0ad99e7048d1a20cf2a77b1f89954c50ec7d7ef852a3e7483644a3e", func := "loop.example/g00028/laws.FnExactLogOK", spec := "fnExactLogOK", plainKeys := false, apart := false, narrowed := true }
def FnExactLogOKUptoSaid : Prop := fnExactLogOKUptoRow.holds Try.pinned (OpenSpec.upto fnExactLogOKSpec)

/-- 'laws.FnExactLogVector', WHERE WHAT IT READS IS OF BULK AT MOST 1048576: true; the input reads as it did. -/
def fnExactLogVectorUptoRow : OpenClaim := { program := "ytiabacjkejkbgaa", sum := "a85268afb0ad99e7048d1a20cf2a77b1f89954c50ec7d7ef852a3e7483644a3e", func := "loop.example/g00028/laws.FnExactLogVector", spec := "fnExactLogVector", plainKeys := false, apart := false, narrowed := true }
def FnExactLogVectorUptoSaid : Prop := fnExactLogVectorUptoRow.holds Try.pinned (OpenSpec.upto fnExactLogVectorSpec)

/-- 'laws.FnExactDocObjects', WHERE WHAT IT READS IS OF BULK AT MOST 1048576: true; the input reads as it did. -/
def fnExactDocObjectsUptoRow : OpenClaim := { program := "ytiabacjkejkbgaa", sum := "a85268afb0ad99e7048d1a20cf2a77b1f89954c50ec7d7ef852a3e7483644a3e", func := "loop.example/g00028/laws.FnExactDocObjects", spec := "fnExactDocObjects", plainKeys := false, apart := false, narrowed := true }
def FnExactDocObjectsUptoSaid : Prop := fnExactDocObjectsUptoRow.holds Try.pinned (OpenSpec.upto fnExactDocObjectsSpec)

/-- 'laws.FnExactUndoDone', WHERE WHAT IT READS IS OF BULK AT MOST 1048576: true; the input reads as it did. -/
def fnExactUndoDoneUptoRow : OpenClaim := { program := "ytiabacjkejkbgaa", sum := "a85268afb0ad99e7048d1a20cf2a77b1f89954c50ec7d7ef852a3e7483644a3e", func := "loop.example/g00028/laws.FnExactUndoDone", spec := "fnExactUndoDone", plainKeys := false, apart := false, narrowed := true }
def FnExactUndoDoneUptoSaid : Prop := fnExactUndoDoneUptoRow.holds Try.pinned (OpenSpec.upto fnExactUndoDoneSpec)

/-- 'laws.FnExactLogSince', WHERE WHAT IT READS IS OF BULK AT MOST 1048576: true; the input reads as it did. -/
def fnExactLogSinceUptoRow : OpenClaim := { program := "ytiabacjkejkbgaa", sum := "a85268afb0ad99e7048d1a20cf2a77b1f89954c50ec7d7ef852a3e7483644a3e", func := "loop.example/g00028/laws.FnExactLogSince", spec := "fnExactLogSince", plainKeys := false, apart := false, narrowed := true }
def FnExactLogSinceUptoSaid : Prop := fnExactLogSinceUptoRow.holds Try.pinned (OpenSpec.upto fnExactLogSinceSpec)

/-- 'laws.FnExactBranchBase', WHERE WHAT IT READS IS OF BULK AT MOST 1048576: true; the input reads as it did. -/
def fnExactBranchBaseUptoRow : OpenClaim := { program := "ytiabacjkejkbgaa", sum := "a85268afb0ad99e7048d1a20cf2a77b1f89954c50ec7d7ef852a3e7483644a3e", func := "loop.example/g00028/laws.FnExactBranchBase", spec := "fnExactBranchBase", plainKeys := false, apart := false, narrowed := true }
def FnExactBranchBaseUptoSaid : Prop := fnExactBranchBaseUptoRow.holds Try.pinned (OpenSpec.upto fnExactBranchBaseSpec)

/-- 'laws.FnExactLogAt', WHERE WHAT IT READS IS OF BULK AT MOST 1048576: true; the input reads as it did. -/
def fnExactLogAtUptoRow : OpenClaim := { program := "ytiabacjkejkbgaa", sum := "a85268afb0ad99e7048d1a20cf2a77b1f89954c50ec7d7ef852a3e7483644a3e", func := "loop.example/g00028/laws.FnExactLogAt", spec := "fnExactLogAt", plainKeys := false, apart := false, narrowed := true }
def FnExactLogAtUptoSaid : Prop := fnExactLogAtUptoRow.holds Try.pinned (OpenSpec.upto fnExactLogAtSpec)

/-- 'laws.FnExactBranchAhead', WHERE WHAT IT READS IS OF BULK AT MOST 1048576: true; the input reads as it did. -/
def fnExactBranchAheadUptoRow : OpenClaim := { program := "ytiabacjkejkbgaa", sum := "a85268afb0ad99e7048d1a20cf2a77b1f89954c50ec7d7ef852a3e7483644a3e", func := "loop.example/g00028/laws.FnExactBranchAhead", spec := "fnExactBranchAhead", plainKeys := false, apart := false, narrowed := true }
def FnExactBranchAheadUptoSaid : Prop := fnExactBranchAheadUptoRow.holds Try.pinned (OpenSpec.upto fnExactBranchAheadSpec)

/-- 'laws.FnExactSketchOf', WHERE WHAT IT READS IS OF BULK AT MOST 1048576: true; the input reads as it did. -/
def fnExactSketchOfUptoRow : OpenClaim := { program := "ytiabacjkejkbgaa", sum := "a85268afb0ad99e7048d1a20cf2a77b1f89954c50ec7d7ef852a3e7483644a3e", func := "loop.example/g00028/laws.FnExactSketchOf", spec := "fnExactSketchOf", plainKeys := false, apart := false, narrowed := true }
def FnExactSketchOfUptoSaid : Prop := fnExactSketchOfUptoRow.holds Try.pinned (OpenSpec.upto fnExactSketchOfSpec)

/-- 'laws.FnExactBranchMerge', WHERE WHAT IT READS IS OF BULK AT MOST 1048576: true; the input reads as it did. -/
def fnExactBranchMergeUptoRow : OpenClaim := { program := "ytiabacjkejkbgaa", sum := "a85268afb0ad99e7048d1a20cf2a77b1f89954c50ec7d7ef852a3e7483644a3e", func := "loop.example/g00028/laws.FnExactBranchMerge", spec := "fnExactBranchMerge", plainKeys := false, apart := false, narrowed := true }
def FnExactBranchMergeUptoSaid : Prop := fnExactBranchMergeUptoRow.holds Try.pinned (OpenSpec.upto fnExactBranchMergeSpec)

/-- 'laws.FnExactSketchDiff', WHERE WHAT IT READS IS OF BULK AT MOST 1048576: true; the input reads as it did. -/
def fnExactSketchDiffUptoRow : OpenClaim := { program := "ytiabacjkejkbgaa", sum := "a85268afb0ad99e7048d1a20cf2a77b1f89954c50ec7d7ef852a3e7483644a3e", func := "loop.example/g00028/laws.FnExactSketchDiff", spec := "fnExactSketchDiff", recurses := true, plainKeys := false, apart := false, narrowed := true }
def FnExactSketchDiffUptoSaid : Prop := fnExactSketchDiffUptoRow.holds Try.pinned (OpenSpec.upto fnExactSketchDiffSpec)

/-- 'laws.FnExactLogAdd', WHERE WHAT IT READS IS OF BULK AT MOST 1048576: true; the input reads as it did. -/
def fnExactLogAddUptoRow : OpenClaim := { program := "ytiabacjkejkbgaa", sum := "a85268afb0ad99e7048d1a20cf2a77b1f89954c50ec7d7ef852a3e7483644a3e", func := "loop.example/g00028/laws.FnExactLogAdd", spec := "fnExactLogAdd", plainKeys := false, apart := false, narrowed := true }
def FnExactLogAddUptoSaid : Prop := fnExactLogAddUptoRow.holds Try.pinned (OpenSpec.upto fnExactLogAddSpec)

end Rows
end Go.Proofs.Ytiabacjkejkbgaa
