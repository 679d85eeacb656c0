/- Of shapes and typed data. No condition. -/
import Derived.Test.YtogokiglmhnjkaaLabB30
set_option linter.unusedVariables false
set_option linter.unusedSimpArgs false
namespace Go.AM
open Pic (enc dec dec_enc dec_sub)

theorem fit_boolT {x : I} (h : Fits .bool x) : ∃ b : Bool, x = iB b ∧ True := by
  obtain ⟨b, hb⟩ := fit_bool h
  exact ⟨b, hb, trivial⟩
theorem fit_u8 {x : I} (h : Fits (.int .u8) x) : ∃ n : U8, x = enc n ∧ 0 ≤ n.v ∧ n.v ≤ 255 := by
  cases h with
  | int n hw =>
    refine ⟨⟨n⟩, rfl, ?_⟩
    simp [Lit.wf, IntKind.min, IntKind.max, IntKind.bits, IntKind.signed] at hw
    exact ⟨by show 0 ≤ n; omega, by show n ≤ 255; omega⟩
def okTStamp (x : TStamp) : Prop := InI64 x.time ∧ InI64 x.actor
theorem fit_TStamp {x : I} (h : Fits (.st [.int .i64, .int .i64]) x) : ∃ a : TStamp, x = enc a ∧ okTStamp a := by
  cases h with
  | st h =>
  cases h with
  | cons h0 h =>
  cases h with
  | cons h1 h =>
  cases h
  obtain ⟨a0, rfl, k0⟩ := fit_int h0
  obtain ⟨a1, rfl, k1⟩ := fit_int h1
  exact ⟨⟨a0, a1⟩, rfl, k0, k1⟩
def okTVec (x : TVec) : Prop := (x.counts.length * 8 ≤ reachBytes ∧ ∀ a, a ∈ x.counts → InI64 a)
theorem fit_TVec {x : I} (h : Fits (.st [.sl 8 (.int .i64)]) x) : ∃ a : TVec, x = enc a ∧ okTVec a := by
  cases h with
  | st h =>
  cases h with
  | cons h0 h =>
  cases h
  obtain ⟨a0, rfl, k0⟩ := fit_sl (α := Int) rfl (fun x hx => fit_int hx) h0
  exact ⟨⟨a0⟩, rfl, k0⟩
def okTReg (x : TReg) : Prop := okTStamp x.stamp ∧ x.text.size ≤ reachBytes
theorem fit_TReg {x : I} (h : Fits (.st [.st [.int .i64, .int .i64], .str]) x) : ∃ a : TReg, x = enc a ∧ okTReg a := by
  cases h with
  | st h =>
  cases h with
  | cons h0 h =>
  cases h with
  | cons h1 h =>
  cases h
  obtain ⟨a0, rfl, k0⟩ := fit_TStamp h0
  obtain ⟨a1, rfl, k1⟩ := fit_str h1
  exact ⟨⟨a0, a1⟩, rfl, k0, k1⟩
def okTEntry (x : TEntry) : Prop := okTStamp x.stamp ∧ x.text.size ≤ reachBytes
theorem fit_TEntry {x : I} (h : Fits (.st [.st [.int .i64, .int .i64], .str]) x) : ∃ a : TEntry, x = enc a ∧ okTEntry a := by
  cases h with
  | st h =>
  cases h with
  | cons h0 h =>
  cases h with
  | cons h1 h =>
  cases h
  obtain ⟨a0, rfl, k0⟩ := fit_TStamp h0
  obtain ⟨a1, rfl, k1⟩ := fit_str h1
  exact ⟨⟨a0, a1⟩, rfl, k0, k1⟩
def okTMulti (x : TMulti) : Prop := okTVec x.seen ∧ (x.entries.length * 32 ≤ reachBytes ∧ ∀ a, a ∈ x.entries → okTEntry a)
theorem fit_TMulti {x : I} (h : Fits (.st [.st [.sl 8 (.int .i64)], .sl 32 (.st [.st [.int .i64, .int .i64], .str])]) x) : ∃ a : TMulti, x = enc a ∧ okTMulti a := by
  cases h with
  | st h =>
  cases h with
  | cons h0 h =>
  cases h with
  | cons h1 h =>
  cases h
  obtain ⟨a0, rfl, k0⟩ := fit_TVec h0
  obtain ⟨a1, rfl, k1⟩ := fit_sl (α := TEntry) rfl (fun x hx => fit_TEntry hx) h1
  exact ⟨⟨a0, a1⟩, rfl, k0, k1⟩
def okTCounter (x : TCounter) : Prop := okTVec x.plus ∧ okTVec x.minus
theorem fit_TCounter {x : I} (h : Fits (.st [.st [.sl 8 (.int .i64)], .st [.sl 8 (.int .i64)]]) x) : ∃ a : TCounter, x = enc a ∧ okTCounter a := by
  cases h with
  | st h =>
  cases h with
  | cons h0 h =>
  cases h with
  | cons h1 h =>
  cases h
  obtain ⟨a0, rfl, k0⟩ := fit_TVec h0
  obtain ⟨a1, rfl, k1⟩ := fit_TVec h1
  exact ⟨⟨a0, a1⟩, rfl, k0, k1⟩
def okTLOp (x : TLOp) : Prop := InI64 x.kind ∧ InI64 x.char ∧ okTStamp x.id ∧ okTStamp x.at_
theorem fit_TLOp {x : I} (h : Fits (.st [.int .i64, .int .i64, .st [.int .i64, .int .i64], .st [.int .i64, .int .i64]]) x) : ∃ a : TLOp, x = enc a ∧ okTLOp a := by
  cases h with
  | st h =>
  cases h with
  | cons h0 h =>
  cases h with
  | cons h1 h =>
  cases h with
  | cons h2 h =>
  cases h with
  | cons h3 h =>
  cases h
  obtain ⟨a0, rfl, k0⟩ := fit_int h0
  obtain ⟨a1, rfl, k1⟩ := fit_int h1
  obtain ⟨a2, rfl, k2⟩ := fit_TStamp h2
  obtain ⟨a3, rfl, k3⟩ := fit_TStamp h3
  exact ⟨⟨a0, a1, a2, a3⟩, rfl, k0, k1, k2, k3⟩
def okTMark (x : TMark) : Prop := okTStamp x.id ∧ okTStamp x.from_ ∧ okTStamp x.to ∧ InI64 x.kind ∧ True
theorem fit_TMark {x : I} (h : Fits (.st [.st [.int .i64, .int .i64], .st [.int .i64, .int .i64], .st [.int .i64, .int .i64], .int .i64, .bool]) x) : ∃ a : TMark, x = enc a ∧ okTMark a := by
  cases h with
  | st h =>
  cases h with
  | cons h0 h =>
  cases h with
  | cons h1 h =>
  cases h with
  | cons h2 h =>
  cases h with
  | cons h3 h =>
  cases h with
  | cons h4 h =>
  cases h
  obtain ⟨a0, rfl, k0⟩ := fit_TStamp h0
  obtain ⟨a1, rfl, k1⟩ := fit_TStamp h1
  obtain ⟨a2, rfl, k2⟩ := fit_TStamp h2
  obtain ⟨a3, rfl, k3⟩ := fit_int h3
  obtain ⟨a4, rfl, k4⟩ := fit_boolT h4
  exact ⟨⟨a0, a1, a2, a3, a4⟩, rfl, k0, k1, k2, k3, k4⟩
def okTMove (x : TMove) : Prop := okTStamp x.id ∧ InI64 x.node ∧ InI64 x.parent ∧ x.name.size ≤ reachBytes
theorem fit_TMove {x : I} (h : Fits (.st [.st [.int .i64, .int .i64], .int .i64, .int .i64, .str]) x) : ∃ a : TMove, x = enc a ∧ okTMove a := by
  cases h with
  | st h =>
  cases h with
  | cons h0 h =>
  cases h with
  | cons h1 h =>
  cases h with
  | cons h2 h =>
  cases h with
  | cons h3 h =>
  cases h
  obtain ⟨a0, rfl, k0⟩ := fit_TStamp h0
  obtain ⟨a1, rfl, k1⟩ := fit_int h1
  obtain ⟨a2, rfl, k2⟩ := fit_int h2
  obtain ⟨a3, rfl, k3⟩ := fit_str h3
  exact ⟨⟨a0, a1, a2, a3⟩, rfl, k0, k1, k2, k3⟩
def okTNode (x : TNode) : Prop := InI64 x.node ∧ InI64 x.parent ∧ x.name.size ≤ reachBytes
theorem fit_TNode {x : I} (h : Fits (.st [.int .i64, .int .i64, .str]) x) : ∃ a : TNode, x = enc a ∧ okTNode a := by
  cases h with
  | st h =>
  cases h with
  | cons h0 h =>
  cases h with
  | cons h1 h =>
  cases h with
  | cons h2 h =>
  cases h
  obtain ⟨a0, rfl, k0⟩ := fit_int h0
  obtain ⟨a1, rfl, k1⟩ := fit_int h1
  obtain ⟨a2, rfl, k2⟩ := fit_str h2
  exact ⟨⟨a0, a1, a2⟩, rfl, k0, k1, k2⟩
def okTOp (x : TOp) : Prop := InI64 x.actor ∧ InI64 x.seq ∧ InI64 x.time ∧ okTVec x.deps ∧ InI64 x.kind ∧ InI64 x.obj ∧ InI64 x.n ∧ InI64 x.undo ∧ okTStamp x.at_ ∧ x.key.size ≤ reachBytes ∧ x.text.size ≤ reachBytes
theorem fit_TOp {x : I} (h : Fits (.st [.int .i64, .int .i64, .int .i64, .st [.sl 8 (.int .i64)], .int .i64, .int .i64, .int .i64, .int .i64, .st [.int .i64, .int .i64], .str, .str]) x) : ∃ a : TOp, x = enc a ∧ okTOp a := by
  cases h with
  | st h =>
  cases h with
  | cons h0 h =>
  cases h with
  | cons h1 h =>
  cases h with
  | cons h2 h =>
  cases h with
  | cons h3 h =>
  cases h with
  | cons h4 h =>
  cases h with
  | cons h5 h =>
  cases h with
  | cons h6 h =>
  cases h with
  | cons h7 h =>
  cases h with
  | cons h8 h =>
  cases h with
  | cons h9 h =>
  cases h with
  | cons h10 h =>
  cases h
  obtain ⟨a0, rfl, k0⟩ := fit_int h0
  obtain ⟨a1, rfl, k1⟩ := fit_int h1
  obtain ⟨a2, rfl, k2⟩ := fit_int h2
  obtain ⟨a3, rfl, k3⟩ := fit_TVec h3
  obtain ⟨a4, rfl, k4⟩ := fit_int h4
  obtain ⟨a5, rfl, k5⟩ := fit_int h5
  obtain ⟨a6, rfl, k6⟩ := fit_int h6
  obtain ⟨a7, rfl, k7⟩ := fit_int h7
  obtain ⟨a8, rfl, k8⟩ := fit_TStamp h8
  obtain ⟨a9, rfl, k9⟩ := fit_str h9
  obtain ⟨a10, rfl, k10⟩ := fit_str h10
  exact ⟨⟨a0, a1, a2, a3, a4, a5, a6, a7, a8, a9, a10⟩, rfl, k0, k1, k2, k3, k4, k5, k6, k7, k8, k9, k10⟩
def okTCell (x : TCell) : Prop := InI64 x.count ∧ InI64 x.id ∧ InI64 x.sum
theorem fit_TCell {x : I} (h : Fits (.st [.int .i64, .int .i64, .int .i64]) x) : ∃ a : TCell, x = enc a ∧ okTCell a := by
  cases h with
  | st h =>
  cases h with
  | cons h0 h =>
  cases h with
  | cons h1 h =>
  cases h with
  | cons h2 h =>
  cases h
  obtain ⟨a0, rfl, k0⟩ := fit_int h0
  obtain ⟨a1, rfl, k1⟩ := fit_int h1
  obtain ⟨a2, rfl, k2⟩ := fit_int h2
  exact ⟨⟨a0, a1, a2⟩, rfl, k0, k1, k2⟩
def okTSketch (x : TSketch) : Prop := (x.cells.length * 24 ≤ reachBytes ∧ ∀ a, a ∈ x.cells → okTCell a)
theorem fit_TSketch {x : I} (h : Fits (.st [.sl 24 (.st [.int .i64, .int .i64, .int .i64])]) x) : ∃ a : TSketch, x = enc a ∧ okTSketch a := by
  cases h with
  | st h =>
  cases h with
  | cons h0 h =>
  cases h
  obtain ⟨a0, rfl, k0⟩ := fit_sl (α := TCell) rfl (fun x hx => fit_TCell hx) h0
  exact ⟨⟨a0⟩, rfl, k0⟩
def okTStep (x : TStep) : Prop := InI64 x.kind ∧ x.name.size ≤ reachBytes ∧ x.to.size ≤ reachBytes ∧ x.text.size ≤ reachBytes
theorem fit_TStep {x : I} (h : Fits (.st [.int .i64, .str, .str, .str]) x) : ∃ a : TStep, x = enc a ∧ okTStep a := by
  cases h with
  | st h =>
  cases h with
  | cons h0 h =>
  cases h with
  | cons h1 h =>
  cases h with
  | cons h2 h =>
  cases h with
  | cons h3 h =>
  cases h
  obtain ⟨a0, rfl, k0⟩ := fit_int h0
  obtain ⟨a1, rfl, k1⟩ := fit_str h1
  obtain ⟨a2, rfl, k2⟩ := fit_str h2
  obtain ⟨a3, rfl, k3⟩ := fit_str h3
  exact ⟨⟨a0, a1, a2, a3⟩, rfl, k0, k1, k2, k3⟩
def okTPair (x : TPair) : Prop := x.name.size ≤ reachBytes ∧ x.text.size ≤ reachBytes
theorem fit_TPair {x : I} (h : Fits (.st [.str, .str]) x) : ∃ a : TPair, x = enc a ∧ okTPair a := by
  cases h with
  | st h =>
  cases h with
  | cons h0 h =>
  cases h with
  | cons h1 h =>
  cases h
  obtain ⟨a0, rfl, k0⟩ := fit_str h0
  obtain ⟨a1, rfl, k1⟩ := fit_str h1
  exact ⟨⟨a0, a1⟩, rfl, k0, k1⟩
def okTSpan (x : TSpan) : Prop := x.text.size ≤ reachBytes ∧ (x.kinds.length * 8 ≤ reachBytes ∧ ∀ a, a ∈ x.kinds → InI64 a)
theorem fit_TSpan {x : I} (h : Fits (.st [.str, .sl 8 (.int .i64)]) x) : ∃ a : TSpan, x = enc a ∧ okTSpan a := by
  cases h with
  | st h =>
  cases h with
  | cons h0 h =>
  cases h with
  | cons h1 h =>
  cases h
  obtain ⟨a0, rfl, k0⟩ := fit_str h0
  obtain ⟨a1, rfl, k1⟩ := fit_sl (α := Int) rfl (fun x hx => fit_int hx) h1
  exact ⟨⟨a0, a1⟩, rfl, k0, k1⟩
def okTLCell (x : TLCell) : Prop := okTStamp x.id ∧ InI64 x.char ∧ True
theorem fit_TLCell {x : I} (h : Fits (.st [.st [.int .i64, .int .i64], .int .i64, .bool]) x) : ∃ a : TLCell, x = enc a ∧ okTLCell a := by
  cases h with
  | st h =>
  cases h with
  | cons h0 h =>
  cases h with
  | cons h1 h =>
  cases h with
  | cons h2 h =>
  cases h
  obtain ⟨a0, rfl, k0⟩ := fit_TStamp h0
  obtain ⟨a1, rfl, k1⟩ := fit_int h1
  obtain ⟨a2, rfl, k2⟩ := fit_boolT h2
  exact ⟨⟨a0, a1, a2⟩, rfl, k0, k1, k2⟩
end Go.AM
