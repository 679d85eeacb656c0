/-
  No cell of these rows narrows 'for every input' (looked for: loops, veiled, ifaces, maps, wideKeys, modest, calm, conditions, laid).
  DERIVED. THE GIVEN ROWS OF THIS SEAT. 6 by the template 'for every input the law returns true; each argument reads behind the call as it read before'; 0 by the template 'total and deterministic' (their statements: YtogokiglmhnjkaaTotals.lean).
  GIVEN WITH THE SEED: the statements are not yours to turn. If you find one false, say at which input.
  Laid BY PROGRAM, IN A SANDBOX (cutbox-rows.mjs): the forced cells as the released guide's own fill.sh prints them over the translation 9a4c6f4a90f00a9c… (all of the seat's roots in one cut). By AI agents, Wed Nov 11 2026. No macro, syntax, notation, axiom, sorry.
-/
import Derived.Test.YtogokiglmhnjkaaChecked
import GoSem.Claim
import GoSem.ClaimJoined
import GoSem.ClaimMapViews
import Derived.JoinedTies
import Derived.KernelRfl
namespace Go.Proofs.Ytogokiglmhnjkaa
/- THE CELL 'sum', in the pinned program and in every row, IS THE sha256 OF THE DUMP (.gsa) THAT YtogokiglmhnjkaaProg.lean LOADS. Nothing in Lean hashes anything: it is a label: what it is worth is what the hold of that sum in a sandbox is worth. -/
noncomputable def Try.pinned : Pinned := { name := "ytogokiglmhnjkaa", sum := "9a4c6f4a90f00a9c9c7b14be4ad0f31573e648845bad2a1b6ab2682f6781bd69", checked := Try.checked }
namespace Rows
def none {H : Type} : Left H := { results := [], args := [] }

/-- 'laws.FnExactCounterAdd': WHATEVER THE INPUT: true; the input reads as it did. -/
def fnExactCounterAddSpec : ChangeSpec := { name := "fnExactCounterAdd", fn := fun _ => fun
  | [d1, d2, d3] => { results := [.lit (.bool true)], args := [d1, d2, d3] }
  | _ => none }
def fnExactCounterAddRow : OpenClaim := { program := "ytogokiglmhnjkaa", sum := "9a4c6f4a90f00a9c9c7b14be4ad0f31573e648845bad2a1b6ab2682f6781bd69", func := "loop.example/g00028/laws.FnExactCounterAdd", spec := "fnExactCounterAdd", apart := false }
def FnExactCounterAddSaid : Prop := fnExactCounterAddRow.holds Try.pinned (OpenSpec.ofChange fnExactCounterAddSpec)

/-- ITS FALSE NEIGHBOUR: 'it returns false'. Refute it at one input. -/
def fnExactCounterAddWrong : ChangeSpec := { name := "fnExactCounterAdd", fn := fun _ => fun
  | [d1, d2, d3] => { results := [.lit (.bool false)], args := [d1, d2, d3] }
  | _ => none }
def FnExactCounterAddWrongFalsely : Prop := fnExactCounterAddRow.holds Try.pinned (OpenSpec.ofChange fnExactCounterAddWrong)

/-- 'laws.FnExactGetRuns': WHATEVER THE INPUT: true; the input reads as it did. -/
def fnExactGetRunsSpec : ChangeSpec := { name := "fnExactGetRuns", fn := fun _ => fun
  | [d] => { results := [.lit (.bool true)], args := [d] }
  | _ => none }
def fnExactGetRunsRow : OpenClaim := { program := "ytogokiglmhnjkaa", sum := "9a4c6f4a90f00a9c9c7b14be4ad0f31573e648845bad2a1b6ab2682f6781bd69", func := "loop.example/g00028/laws.FnExactGetRuns", spec := "fnExactGetRuns", recurses := true, apart := false }
def FnExactGetRunsSaid : Prop := fnExactGetRunsRow.holds Try.pinned (OpenSpec.ofChange fnExactGetRunsSpec)

/-- ITS FALSE NEIGHBOUR: 'it returns false'. Refute it at one input. -/
def fnExactGetRunsWrong : ChangeSpec := { name := "fnExactGetRuns", fn := fun _ => fun
  | [d] => { results := [.lit (.bool false)], args := [d] }
  | _ => none }
def FnExactGetRunsWrongFalsely : Prop := fnExactGetRunsRow.holds Try.pinned (OpenSpec.ofChange fnExactGetRunsWrong)

/-- 'laws.FnExactLensForward': WHATEVER THE INPUT: true; the input reads as it did. -/
def fnExactLensForwardSpec : ChangeSpec := { name := "fnExactLensForward", fn := fun _ => fun
  | [d1, d2] => { results := [.lit (.bool true)], args := [d1, d2] }
  | _ => none }
def fnExactLensForwardRow : OpenClaim := { program := "ytogokiglmhnjkaa", sum := "9a4c6f4a90f00a9c9c7b14be4ad0f31573e648845bad2a1b6ab2682f6781bd69", func := "loop.example/g00028/laws.FnExactLensForward", spec := "fnExactLensForward", inPlace := ["internal/reflectlite.ValueOf", "internal/reflectlite.Swapper", "(internal/reflectlite.Value).Len"], unfollowed := true, recurses := true, apart := false }
def FnExactLensForwardSaid : Prop := fnExactLensForwardRow.holds Try.pinned (OpenSpec.ofChange fnExactLensForwardSpec)

/-- ITS FALSE NEIGHBOUR: 'it returns false'. Refute it at one input. -/
def fnExactLensForwardWrong : ChangeSpec := { name := "fnExactLensForward", fn := fun _ => fun
  | [d1, d2] => { results := [.lit (.bool false)], args := [d1, d2] }
  | _ => none }
def FnExactLensForwardWrongFalsely : Prop := fnExactLensForwardRow.holds Try.pinned (OpenSpec.ofChange fnExactLensForwardWrong)

/-- 'laws.FnExactLensBack': WHATEVER THE INPUT: true; the input reads as it did. -/
def fnExactLensBackSpec : ChangeSpec := { name := "fnExactLensBack", fn := fun _ => fun
  | [d1, d2] => { results := [.lit (.bool true)], args := [d1, d2] }
  | _ => none }
def fnExactLensBackRow : OpenClaim := { program := "ytogokiglmhnjkaa", sum := "9a4c6f4a90f00a9c9c7b14be4ad0f31573e648845bad2a1b6ab2682f6781bd69", func := "loop.example/g00028/laws.FnExactLensBack", spec := "fnExactLensBack", inPlace := ["internal/reflectlite.ValueOf", "internal/reflectlite.Swapper", "(internal/reflectlite.Value).Len"], unfollowed := true, recurses := true, apart := false }
def FnExactLensBackSaid : Prop := fnExactLensBackRow.holds Try.pinned (OpenSpec.ofChange fnExactLensBackSpec)

/-- ITS FALSE NEIGHBOUR: 'it returns false'. Refute it at one input. -/
def fnExactLensBackWrong : ChangeSpec := { name := "fnExactLensBack", fn := fun _ => fun
  | [d1, d2] => { results := [.lit (.bool false)], args := [d1, d2] }
  | _ => none }
def FnExactLensBackWrongFalsely : Prop := fnExactLensBackRow.holds Try.pinned (OpenSpec.ofChange fnExactLensBackWrong)

/-- 'laws.FnExactTreePath': WHATEVER THE INPUT: true; the input reads as it did. -/
def fnExactTreePathSpec : ChangeSpec := { name := "fnExactTreePath", fn := fun _ => fun
  | [d1, d2] => { results := [.lit (.bool true)], args := [d1, d2] }
  | _ => none }
def fnExactTreePathRow : OpenClaim := { program := "ytogokiglmhnjkaa", sum := "9a4c6f4a90f00a9c9c7b14be4ad0f31573e648845bad2a1b6ab2682f6781bd69", func := "loop.example/g00028/laws.FnExactTreePath", spec := "fnExactTreePath", inPlace := ["internal/reflectlite.ValueOf", "internal/reflectlite.Swapper", "(internal/reflectlite.Value).Len"], unfollowed := true, recurses := true, apart := false }
def FnExactTreePathSaid : Prop := fnExactTreePathRow.holds Try.pinned (OpenSpec.ofChange fnExactTreePathSpec)

/-- ITS FALSE NEIGHBOUR: 'it returns false'. Refute it at one input. -/
def fnExactTreePathWrong : ChangeSpec := { name := "fnExactTreePath", fn := fun _ => fun
  | [d1, d2] => { results := [.lit (.bool false)], args := [d1, d2] }
  | _ => none }
def FnExactTreePathWrongFalsely : Prop := fnExactTreePathRow.holds Try.pinned (OpenSpec.ofChange fnExactTreePathWrong)

/-- 'laws.FnExactTreeOf': WHATEVER THE INPUT: true; the input reads as it did. -/
def fnExactTreeOfSpec : ChangeSpec := { name := "fnExactTreeOf", fn := fun _ => fun
  | [d] => { results := [.lit (.bool true)], args := [d] }
  | _ => none }
def fnExactTreeOfRow : OpenClaim := { program := "ytogokiglmhnjkaa", sum := "9a4c6f4a90f00a9c9c7b14be4ad0f31573e648845bad2a1b6ab2682f6781bd69", func := "loop.example/g00028/laws.FnExactTreeOf", spec := "fnExactTreeOf", inPlace := ["internal/reflectlite.ValueOf", "internal/reflectlite.Swapper", "(internal/reflectlite.Value).Len"], unfollowed := true, recurses := true, apart := false }
def FnExactTreeOfSaid : Prop := fnExactTreeOfRow.holds Try.pinned (OpenSpec.ofChange fnExactTreeOfSpec)

/-- ITS FALSE NEIGHBOUR: 'it returns false'. Refute it at one input. -/
def fnExactTreeOfWrong : ChangeSpec := { name := "fnExactTreeOf", fn := fun _ => fun
  | [d] => { results := [.lit (.bool false)], args := [d] }
  | _ => none }
def FnExactTreeOfWrongFalsely : Prop := fnExactTreeOfRow.holds Try.pinned (OpenSpec.ofChange fnExactTreeOfWrong)

/- THE SECOND FORM. 'bulk': how many values and letters a reading holds, each counted each time it is reached (what is shared counts as often as it is met; a slice's spare places count too). A statement '..UptoSaid' is the law's where the arguments, and the package variables that the reading takes, are together of bulk at most 1048576: NARROWER than '..Said'. Prove '..Said' where nothing that the law and all that it calls make is longer than what came in: it says more and counts as full. Else prove '..UptoSaid'. A law counts once. -/
mutual
def uptoBulk {H : Type} : DataW H → Nat
  | .lit (.string bytes) => bytes.length + 1
  | .lit _ => 1
  | .nil => 1
  | .ptr d => uptoBulk d + 1
  | .slice elems spare => uptoBulkAll elems + uptoBulkAll spare + 1
  | .agg parts => uptoBulkAll parts + 1
  | .iface _ d => uptoBulk d + 1
  | .map entries => uptoBulkEntries entries + 1
  | .held _ => 1
def uptoBulkAll {H : Type} : List (DataW H) → Nat
  | [] => 0
  | d :: r => uptoBulk d + uptoBulkAll r
def uptoBulkEntries {H : Type} : List (Lit × DataW H) → Nat
  | [] => 0
  | x :: r => uptoBulkEntry x + uptoBulkEntries r
def uptoBulkEntry {H : Type} : Lit × DataW H → Nat
  | (.string bytes, d) => bytes.length + uptoBulk d + 1
  | (_, d) => uptoBulk d + 1
 end
def uptoSmall : (H : Type) → List (DataW H) → Bool := fun _ ds => decide (uptoBulkAll ds ≤ 1048576)
def OpenSpec.upto (s : _root_.Go.ChangeSpec) : _root_.Go.OpenSpec := { _root_.Go.OpenSpec.ofChange s with cond := some uptoSmall }

/-- 'laws.FnExactCounterAdd', WHERE WHAT IT READS IS OF BULK AT MOST 1048576: true; the input reads as it did. -/
def fnExactCounterAddUptoRow : OpenClaim := { program := "ytogokiglmhnjkaa", sum := "9a4c6f4a90f00a9c9c7b14be4ad0f31573e648845bad2a1b6ab2682f6781bd69", func := "loop.example/g00028/laws.FnExactCounterAdd", spec := "fnExactCounterAdd", apart := false, narrowed := true }
def FnExactCounterAddUptoSaid : Prop := fnExactCounterAddUptoRow.holds Try.pinned (OpenSpec.upto fnExactCounterAddSpec)

/-- 'laws.FnExactGetRuns', WHERE WHAT IT READS IS OF BULK AT MOST 1048576: true; the input reads as it did. -/
def fnExactGetRunsUptoRow : OpenClaim := { program := "ytogokiglmhnjkaa", sum := "9a4c6f4a90f00a9c9c7b14be4ad0f31573e648845bad2a1b6ab2682f6781bd69", func := "loop.example/g00028/laws.FnExactGetRuns", spec := "fnExactGetRuns", recurses := true, apart := false, narrowed := true }
def FnExactGetRunsUptoSaid : Prop := fnExactGetRunsUptoRow.holds Try.pinned (OpenSpec.upto fnExactGetRunsSpec)

/-- 'laws.FnExactLensForward', WHERE WHAT IT READS IS OF BULK AT MOST 1048576: true; the input reads as it did. -/
def fnExactLensForwardUptoRow : OpenClaim := { program := "ytogokiglmhnjkaa", sum := "9a4c6f4a90f00a9c9c7b14be4ad0f31573e648845bad2a1b6ab2682f6781bd69", func := "loop.example/g00028/laws.FnExactLensForward", spec := "fnExactLensForward", inPlace := ["internal/reflectlite.ValueOf", "internal/reflectlite.Swapper", "(internal/reflectlite.Value).Len"], unfollowed := true, recurses := true, apart := false, narrowed := true }
def FnExactLensForwardUptoSaid : Prop := fnExactLensForwardUptoRow.holds Try.pinned (OpenSpec.upto fnExactLensForwardSpec)

/-- 'laws.FnExactLensBack', WHERE WHAT IT READS IS OF BULK AT MOST 1048576: true; the input reads as it did. -/
def fnExactLensBackUptoRow : OpenClaim := { program := "ytogokiglmhnjkaa", sum := "9a4c6f4a90f00a9c9c7b14be4ad0f31573e648845bad2a1b6ab2682f6781bd69", func := "loop.example/g00028/laws.FnExactLensBack", spec := "fnExactLensBack", inPlace := ["internal/reflectlite.ValueOf", "internal/reflectlite.Swapper", "(internal/reflectlite.Value).Len"], unfollowed := true, recurses := true, apart := false, narrowed := true }
def FnExactLensBackUptoSaid : Prop := fnExactLensBackUptoRow.holds Try.pinned (OpenSpec.upto fnExactLensBackSpec)

/-- 'laws.FnExactTreePath', WHERE WHAT IT READS IS OF BULK AT MOST 1048576: true; the input reads as it did. -/
def fnExactTreePathUptoRow : OpenClaim := { program := "ytogokiglmhnjkaa", sum := "9a4c6f4a90f00a9c9c7b14be4ad0f31573e648845bad2a1b6ab2682f6781bd69", func := "loop.example/g00028/laws.FnExactTreePath", spec := "fnExactTreePath", inPlace := ["internal/reflectlite.ValueOf", "internal/reflectlite.Swapper", "(internal/reflectlite.Value).Len"], unfollowed := true, recurses := true, apart := false, narrowed := true }
def FnExactTreePathUptoSaid : Prop := fnExactTreePathUptoRow.holds Try.pinned (OpenSpec.upto fnExactTreePathSpec)

/-- 'laws.FnExactTreeOf', WHERE WHAT IT READS IS OF BULK AT MOST 1048576: true; the input reads as it did. -/
def fnExactTreeOfUptoRow : OpenClaim := { program := "ytogokiglmhnjkaa", sum := "9a4c6f4a90f00a9c9c7b14be4ad0f31573e648845bad2a1b6ab2682f6781bd69", func := "loop.example/g00028/laws.FnExactTreeOf", spec := "fnExactTreeOf", inPlace := ["internal/reflectlite.ValueOf", "internal/reflectlite.Swapper", "(internal/reflectlite.Value).Len"], unfollowed := true, recurses := true, apart := false, narrowed := true }
def FnExactTreeOfUptoSaid : Prop := fnExactTreeOfUptoRow.holds Try.pinned (OpenSpec.upto fnExactTreeOfSpec)

end Rows
end Go.Proofs.Ytogokiglmhnjkaa
