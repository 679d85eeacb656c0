/-
  No cell of these rows narrows 'for every input' (looked for: loops, veiled, ifaces, maps, wideKeys, modest, calm, conditions, laid).
  DERIVED. THE GIVEN ROWS OF THIS SEAT. 7 by the template 'for every input the law returns true; each argument reads behind the call as it read before'; 0 by the template 'total and deterministic' (their statements: YtbmeclcmcknbaaaTotals.lean).
  GIVEN WITH THE SEED: the statements are not yours to turn. If you find one false, say at which input.
  Laid BY PROGRAM, IN A SANDBOX (cutbox-rows.mjs): the forced cells as the released guide's own fill.sh prints them over the translation 9dcbf2d5e6735ef7… (all of the seat's roots in one cut). By AI agents, Wed Nov 11 2026. No macro, syntax, notation, axiom, sorry.
-/
import Derived.Test.YtbmeclcmcknbaaaChecked
import GoSem.Claim
import GoSem.ClaimJoined
import GoSem.ClaimMapViews
import Derived.JoinedTies
import Derived.KernelRfl
namespace Go.Proofs.Ytbmeclcmcknbaaa
/- THE CELL 'sum', in the pinned program and in every row, IS THE sha256 OF THE DUMP (.gsa) THAT YtbmeclcmcknbaaaProg.lean LOADS. Nothing in Lean hashes anything: it is a label: what it is worth is what the hold of that sum in a sandbox is worth. -/
noncomputable def Try.pinned : Pinned := { name := "ytbmeclcmcknbaaa", sum := "9dcbf2d5e6735ef7a73a6418f1c7bf61741ebb9d91304962fbbff72bd464a482", checked := Try.checked }
namespace Rows
def none {H : Type} : Left H := { results := [], args := [] }

/-- 'laws.FnExactFollow': WHATEVER THE INPUT: true; the input reads as it did. -/
def fnExactFollowSpec : ChangeSpec := { name := "fnExactFollow", fn := fun _ => fun
  | [d1, d2] => { results := [.lit (.bool true)], args := [d1, d2] }
  | _ => none }
def fnExactFollowRow : OpenClaim := { program := "ytbmeclcmcknbaaa", sum := "9dcbf2d5e6735ef7a73a6418f1c7bf61741ebb9d91304962fbbff72bd464a482", func := "loop.example/g00028/laws.FnExactFollow", spec := "fnExactFollow", inPlace := ["internal/reflectlite.ValueOf", "internal/reflectlite.Swapper", "(internal/reflectlite.Value).Len"], unfollowed := true, recurses := true, plainKeys := false, apart := false }
def FnExactFollowSaid : Prop := fnExactFollowRow.holds Try.pinned (OpenSpec.ofChange fnExactFollowSpec)

/-- ITS FALSE NEIGHBOUR: 'it returns false'. Refute it at one input. -/
def fnExactFollowWrong : ChangeSpec := { name := "fnExactFollow", fn := fun _ => fun
  | [d1, d2] => { results := [.lit (.bool false)], args := [d1, d2] }
  | _ => none }
def FnExactFollowWrongFalsely : Prop := fnExactFollowRow.holds Try.pinned (OpenSpec.ofChange fnExactFollowWrong)

/-- 'laws.FnExactListPlace': WHATEVER THE INPUT: true; the input reads as it did. -/
def fnExactListPlaceSpec : ChangeSpec := { name := "fnExactListPlace", fn := fun _ => fun
  | [d1, d2] => { results := [.lit (.bool true)], args := [d1, d2] }
  | _ => none }
def fnExactListPlaceRow : OpenClaim := { program := "ytbmeclcmcknbaaa", sum := "9dcbf2d5e6735ef7a73a6418f1c7bf61741ebb9d91304962fbbff72bd464a482", func := "loop.example/g00028/laws.FnExactListPlace", spec := "fnExactListPlace", inPlace := ["internal/reflectlite.ValueOf", "internal/reflectlite.Swapper", "(internal/reflectlite.Value).Len"], unfollowed := true, recurses := true, plainKeys := false, apart := false }
def FnExactListPlaceSaid : Prop := fnExactListPlaceRow.holds Try.pinned (OpenSpec.ofChange fnExactListPlaceSpec)

/-- ITS FALSE NEIGHBOUR: 'it returns false'. Refute it at one input. -/
def fnExactListPlaceWrong : ChangeSpec := { name := "fnExactListPlace", fn := fun _ => fun
  | [d1, d2] => { results := [.lit (.bool false)], args := [d1, d2] }
  | _ => none }
def FnExactListPlaceWrongFalsely : Prop := fnExactListPlaceRow.holds Try.pinned (OpenSpec.ofChange fnExactListPlaceWrong)

/-- 'laws.FnExactListMerge': WHATEVER THE INPUT: true; the input reads as it did. -/
def fnExactListMergeSpec : ChangeSpec := { name := "fnExactListMerge", fn := fun _ => fun
  | [d1, d2] => { results := [.lit (.bool true)], args := [d1, d2] }
  | _ => none }
def fnExactListMergeRow : OpenClaim := { program := "ytbmeclcmcknbaaa", sum := "9dcbf2d5e6735ef7a73a6418f1c7bf61741ebb9d91304962fbbff72bd464a482", func := "loop.example/g00028/laws.FnExactListMerge", spec := "fnExactListMerge", inPlace := ["internal/reflectlite.ValueOf", "internal/reflectlite.Swapper", "(internal/reflectlite.Value).Len"], unfollowed := true, recurses := true, plainKeys := false, apart := false }
def FnExactListMergeSaid : Prop := fnExactListMergeRow.holds Try.pinned (OpenSpec.ofChange fnExactListMergeSpec)

/-- ITS FALSE NEIGHBOUR: 'it returns false'. Refute it at one input. -/
def fnExactListMergeWrong : ChangeSpec := { name := "fnExactListMerge", fn := fun _ => fun
  | [d1, d2] => { results := [.lit (.bool false)], args := [d1, d2] }
  | _ => none }
def FnExactListMergeWrongFalsely : Prop := fnExactListMergeRow.holds Try.pinned (OpenSpec.ofChange fnExactListMergeWrong)

/-- 'laws.FnExactListOrder': WHATEVER THE INPUT: true; the input reads as it did. -/
def fnExactListOrderSpec : ChangeSpec := { name := "fnExactListOrder", fn := fun _ => fun
  | [d] => { results := [.lit (.bool true)], args := [d] }
  | _ => none }
def fnExactListOrderRow : OpenClaim := { program := "ytbmeclcmcknbaaa", sum := "9dcbf2d5e6735ef7a73a6418f1c7bf61741ebb9d91304962fbbff72bd464a482", func := "loop.example/g00028/laws.FnExactListOrder", spec := "fnExactListOrder", inPlace := ["internal/reflectlite.ValueOf", "internal/reflectlite.Swapper", "(internal/reflectlite.Value).Len"], unfollowed := true, recurses := true, plainKeys := false, apart := false }
def FnExactListOrderSaid : Prop := fnExactListOrderRow.holds Try.pinned (OpenSpec.ofChange fnExactListOrderSpec)

/-- ITS FALSE NEIGHBOUR: 'it returns false'. Refute it at one input. -/
def fnExactListOrderWrong : ChangeSpec := { name := "fnExactListOrder", fn := fun _ => fun
  | [d] => { results := [.lit (.bool false)], args := [d] }
  | _ => none }
def FnExactListOrderWrongFalsely : Prop := fnExactListOrderRow.holds Try.pinned (OpenSpec.ofChange fnExactListOrderWrong)

/-- 'laws.FnExactListText': WHATEVER THE INPUT: true; the input reads as it did. -/
def fnExactListTextSpec : ChangeSpec := { name := "fnExactListText", fn := fun _ => fun
  | [d] => { results := [.lit (.bool true)], args := [d] }
  | _ => none }
def fnExactListTextRow : OpenClaim := { program := "ytbmeclcmcknbaaa", sum := "9dcbf2d5e6735ef7a73a6418f1c7bf61741ebb9d91304962fbbff72bd464a482", func := "loop.example/g00028/laws.FnExactListText", spec := "fnExactListText", inPlace := ["internal/reflectlite.ValueOf", "internal/reflectlite.Swapper", "(internal/reflectlite.Value).Len"], unfollowed := true, recurses := true, plainKeys := false, apart := false }
def FnExactListTextSaid : Prop := fnExactListTextRow.holds Try.pinned (OpenSpec.ofChange fnExactListTextSpec)

/-- ITS FALSE NEIGHBOUR: 'it returns false'. Refute it at one input. -/
def fnExactListTextWrong : ChangeSpec := { name := "fnExactListText", fn := fun _ => fun
  | [d] => { results := [.lit (.bool false)], args := [d] }
  | _ => none }
def FnExactListTextWrongFalsely : Prop := fnExactListTextRow.holds Try.pinned (OpenSpec.ofChange fnExactListTextWrong)

/-- 'laws.FnExactMarkText': WHATEVER THE INPUT: true; the input reads as it did. -/
def fnExactMarkTextSpec : ChangeSpec := { name := "fnExactMarkText", fn := fun _ => fun
  | [d1, d2, d3, d4, d5, d6, d7] => { results := [.lit (.bool true)], args := [d1, d2, d3, d4, d5, d6, d7] }
  | _ => none }
def fnExactMarkTextRow : OpenClaim := { program := "ytbmeclcmcknbaaa", sum := "9dcbf2d5e6735ef7a73a6418f1c7bf61741ebb9d91304962fbbff72bd464a482", func := "loop.example/g00028/laws.FnExactMarkText", spec := "fnExactMarkText", inPlace := ["internal/reflectlite.ValueOf", "internal/reflectlite.Swapper", "(internal/reflectlite.Value).Len"], unfollowed := true, recurses := true, plainKeys := false, apart := false }
def FnExactMarkTextSaid : Prop := fnExactMarkTextRow.holds Try.pinned (OpenSpec.ofChange fnExactMarkTextSpec)

/-- ITS FALSE NEIGHBOUR: 'it returns false'. Refute it at one input. -/
def fnExactMarkTextWrong : ChangeSpec := { name := "fnExactMarkText", fn := fun _ => fun
  | [d1, d2, d3, d4, d5, d6, d7] => { results := [.lit (.bool false)], args := [d1, d2, d3, d4, d5, d6, d7] }
  | _ => none }
def FnExactMarkTextWrongFalsely : Prop := fnExactMarkTextRow.holds Try.pinned (OpenSpec.ofChange fnExactMarkTextWrong)

/-- 'laws.FnExactRichSpans': WHATEVER THE INPUT: true; the input reads as it did. -/
def fnExactRichSpansSpec : ChangeSpec := { name := "fnExactRichSpans", fn := fun _ => fun
  | [d1, d2] => { results := [.lit (.bool true)], args := [d1, d2] }
  | _ => none }
def fnExactRichSpansRow : OpenClaim := { program := "ytbmeclcmcknbaaa", sum := "9dcbf2d5e6735ef7a73a6418f1c7bf61741ebb9d91304962fbbff72bd464a482", func := "loop.example/g00028/laws.FnExactRichSpans", spec := "fnExactRichSpans", inPlace := ["internal/reflectlite.ValueOf", "internal/reflectlite.Swapper", "(internal/reflectlite.Value).Len"], unfollowed := true, recurses := true, plainKeys := false, apart := false }
def FnExactRichSpansSaid : Prop := fnExactRichSpansRow.holds Try.pinned (OpenSpec.ofChange fnExactRichSpansSpec)

/-- ITS FALSE NEIGHBOUR: 'it returns false'. Refute it at one input. -/
def fnExactRichSpansWrong : ChangeSpec := { name := "fnExactRichSpans", fn := fun _ => fun
  | [d1, d2] => { results := [.lit (.bool false)], args := [d1, d2] }
  | _ => none }
def FnExactRichSpansWrongFalsely : Prop := fnExactRichSpansRow.holds Try.pinned (OpenSpec.ofChange fnExactRichSpansWrong)

/- THE SECOND FORM. 'bulk': how many values and letters a reading holds, each counted each time it is reached (what is shared counts as often as it is met; a slice's spare places count too). A statement '..UptoSaid' is the law's where the arguments, and the package variables that the reading takes, are together of bulk at most 1048576: NARROWER than '..Said'. Prove '..Said' where nothing that the law and all that it calls make is longer than what came in: it says more and counts as full. Else prove '..UptoSaid'. A law counts once. -/
mutual
def uptoBulk {H : Type} : DataW H → Nat
  | .lit (.string bytes) => bytes.length + 1
  | .lit _ => 1
  | .nil => 1
  | .ptr d => uptoBulk d + 1
  | .slice elems spare => uptoBulkAll elems + uptoBulkAll spare + 1
  | .agg parts => uptoBulkAll parts + 1
  | .iface _ d => uptoBulk d + 1
  | .map entries => uptoBulkEntries entries + 1
  | .held _ => 1
def uptoBulkAll {H : Type} : List (DataW H) → Nat
  | [] => 0
  | d :: r => uptoBulk d + uptoBulkAll r
def uptoBulkEntries {H : Type} : List (Lit × DataW H) → Nat
  | [] => 0
  | x :: r => uptoBulkEntry x + uptoBulkEntries r
def uptoBulkEntry {H : Type} : Lit × DataW H → Nat
  | (.string bytes, d) => bytes.length + uptoBulk d + 1
  | (_, d) => uptoBulk d + 1
 end
def uptoSmall : (H : Type) → List (DataW H) → Bool := fun _ ds => decide (uptoBulkAll ds ≤ 1048576)
def OpenSpec.upto (s : _root_.Go.ChangeSpec) : _root_.Go.OpenSpec := { _root_.Go.OpenSpec.ofChange s with cond := some uptoSmall }

/-- 'laws.FnExactFollow', WHERE WHAT IT READS IS OF BULK AT MOST 1048576: true; the input reads as it did. -/
def fnExactFollowUptoRow : OpenClaim := { program := "ytbmeclcmcknbaaa", sum := "9dcbf2d5e6735ef7a73a6418f1c7bf61741ebb9d91304962fbbff72bd464a482", func := "loop.example/g00028/laws.FnExactFollow", spec := "fnExactFollow", inPlace := ["internal/reflectlite.ValueOf", "internal/reflectlite.Swapper", "(internal/reflectlite.Value).Len"], unfollowed := true, recurses := true, plainKeys := false, apart := false, narrowed := true }
def FnExactFollowUptoSaid : Prop := fnExactFollowUptoRow.holds Try.pinned (OpenSpec.upto fnExactFollowSpec)

/-- 'laws.FnExactListPlace', WHERE WHAT IT READS IS OF BULK AT MOST 1048576: true; the input reads as it did. -/
def fnExactListPlaceUptoRow : OpenClaim := { program := "ytbmeclcmcknbaaa", sum := "9dcbf2d5e6735ef7a73a6418f1c7bf61741ebb9d91304962fbbff72bd464a482", func := "loop.example/g00028/laws.FnExactListPlace", spec := "fnExactListPlace", inPlace := ["internal/reflectlite.ValueOf", "internal/reflectlite.Swapper", "(internal/reflectlite.Value).Len"], unfollowed := true, recurses := true, plainKeys := false, apart := false, narrowed := true }
def FnExactListPlaceUptoSaid : Prop := fnExactListPlaceUptoRow.holds Try.pinned (OpenSpec.upto fnExactListPlaceSpec)

/-- 'laws.FnExactListMerge', WHERE WHAT IT READS IS OF BULK AT MOST 1048576: true; the input reads as it did. -/
def fnExactListMergeUptoRow : OpenClaim := { program := "ytbmeclcmcknbaaa", sum := "9dcbf2d5e6735ef7a73a6418f1c7bf61741ebb9d91304962fbbff72bd464a482", func := "loop.example/g00028/laws.FnExactListMerge", spec := "fnExactListMerge", inPlace := ["internal/reflectlite.ValueOf", "internal/reflectlite.Swapper", "(internal/reflectlite.Value).Len"], unfollowed := true, recurses := true, plainKeys := false, apart := false, narrowed := true }
def FnExactListMergeUptoSaid : Prop := fnExactListMergeUptoRow.holds Try.pinned (OpenSpec.upto fnExactListMergeSpec)

/-- 'laws.FnExactListOrder', WHERE WHAT IT READS IS OF BULK AT MOST 1048576: true; the input reads as it did. -/
def fnExactListOrderUptoRow : OpenClaim := { program := "ytbmeclcmcknbaaa", sum := "9dcbf2d5e6735ef7a73a6418f1c7bf61741ebb9d91304962fbbff72bd464a482", func := "loop.example/g00028/laws.FnExactListOrder", spec := "fnExactListOrder", inPlace := ["internal/reflectlite.ValueOf", "internal/reflectlite.Swapper", "(internal/reflectlite.Value).Len"], unfollowed := true, recurses := true, plainKeys := false, apart := false, narrowed := true }
def FnExactListOrderUptoSaid : Prop := fnExactListOrderUptoRow.holds Try.pinned (OpenSpec.upto fnExactListOrderSpec)

/-- 'laws.FnExactListText', WHERE WHAT IT READS IS OF BULK AT MOST 1048576: true; the input reads as it did. -/
def fnExactListTextUptoRow : OpenClaim := { program := "ytbmeclcmcknbaaa", sum := "9dcbf2d5e6735ef7a73a6418f1c7bf61741ebb9d91304962fbbff72bd464a482", func := "loop.example/g00028/laws.FnExactListText", spec := "fnExactListText", inPlace := ["internal/reflectlite.ValueOf", "internal/reflectlite.Swapper", "(internal/reflectlite.Value).Len"], unfollowed := true, recurses := true, plainKeys := false, apart := false, narrowed := true }
def FnExactListTextUptoSaid : Prop := fnExactListTextUptoRow.holds Try.pinned (OpenSpec.upto fnExactListTextSpec)

/-- 'laws.FnExactMarkText', WHERE WHAT IT READS IS OF BULK AT MOST 1048576: true; the input reads as it did. -/
def fnExactMarkTextUptoRow : OpenClaim := { program := "ytbmeclcmcknbaaa", sum := "9dcbf2d5e6735ef7a73a6418f1c7bf61741ebb9d91304962fbbff72bd464a482", func := "loop.example/g00028/laws.FnExactMarkText", spec := "fnExactMarkText", inPlace := ["internal/reflectlite.ValueOf", "internal/reflectlite.Swapper", "(internal/reflectlite.Value).Len"], unfollowed := true, recurses := true, plainKeys := false, apart := false, narrowed := true }
def FnExactMarkTextUptoSaid : Prop := fnExactMarkTextUptoRow.holds Try.pinned (OpenSpec.upto fnExactMarkTextSpec)

/-- 'laws.FnExactRichSpans', WHERE WHAT IT READS IS OF BULK AT MOST 1048576: true; the input reads as it did. -/
def fnExactRichSpansUptoRow : OpenClaim := { program := "ytbmeclcmcknbaaa", sum := "9dcbf2d5e6735ef7a73a6418f1c7bf61741ebb9d91304962fbbff72bd464a482", func := "loop.example/g00028/laws.FnExactRichSpans", spec := "fnExactRichSpans", inPlace := ["internal/reflectlite.ValueOf", "internal/reflectlite.Swapper", "(internal/reflectlite.Value).Len"], unfollowed := true, recurses := true, plainKeys := false, apart := false, narrowed := true }
def FnExactRichSpansUptoSaid : Prop := fnExactRichSpansUptoRow.holds Try.pinned (OpenSpec.upto fnExactRichSpansSpec)

end Rows
end Go.Proofs.Ytbmeclcmcknbaaa
