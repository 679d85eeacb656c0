/- The program's data, typed, and its pictures. No condition. -/
import Derived.Test.YtogokiglmhnjkaaLabB27
set_option linter.unusedVariables false
set_option linter.unusedSimpArgs false
namespace Go.AM
open Pic (enc dec dec_enc dec_sub)

structure TStamp where
  time : Int
  actor : Int
  deriving DecidableEq

def decTStamp : I → Option TStamp
  | .agg [.s (.int .i64 v0), .s (.int .i64 v1)] => some ⟨v0, v1⟩
  | _ => none
instance : Pic TStamp where
  z := 2
  ag := true
  enc x := .agg [iN x.time, iN x.actor]
  dec := decTStamp
  dec_enc _ := rfl
  len _ := rfl
  pos := by decide
  one := .inl rfl
  row _ := rfl
  dec_sub x a h := by
    unfold decTStamp at h
    split at h
    · cases h; exact .refl _
    · cases h
theorem z_TStamp : Pic.z TStamp = 2 := rfl
theorem ag_TStamp : Pic.ag TStamp = true := rfl
theorem enc_TStamp {x : TStamp} : enc x = .agg [iN x.time, iN x.actor] := rfl
theorem dec_TStamp {x : I} : (dec x : Option TStamp) = decTStamp x := rfl
theorem eta_TStamp {x : TStamp} : TStamp.mk x.time x.actor = x := rfl
theorem cellsV_TStamp {x : TStamp} : cellsV x = [.i (iN x.time), .i (iN x.actor)] := rfl
theorem eq_TStamp {x y : TStamp} : eqL [.int .i64 (x.time), .int .i64 (x.actor)] [.int .i64 (y.time), .int .i64 (y.actor)] = decide (x = y) := by
  obtain ⟨a0, a1⟩ := x
  obtain ⟨b0, b1⟩ := y
  simp [eqL, eqV, Bool.decide_and, Bool.and_assoc, Bool.beq_eq_decide_eq]

structure TVec where
  counts : List Int
  deriving DecidableEq

def decTVec : I → Option TVec
  | .agg [v0] => (dec v0).bind fun v0 => some ⟨v0⟩
  | _ => none
instance : Pic TVec where
  z := 1
  ag := true
  enc x := .agg [enc x.counts]
  dec := decTVec
  dec_enc x := by simp [decTVec, dec_enc]
  len _ := rfl
  pos := by decide
  one := .inl rfl
  row _ := rfl
  dec_sub x a h := by
    unfold decTVec at h
    split at h
    · obtain ⟨l0, h0, h⟩ := Option.bind_eq_some_iff.1 h
      cases h
      exact .agg (.cons (dec_sub _ _ h0) .nil)
    · cases h
theorem z_TVec : Pic.z TVec = 1 := rfl
theorem ag_TVec : Pic.ag TVec = true := rfl
theorem enc_TVec {x : TVec} : enc x = .agg [enc x.counts] := rfl
theorem dec_TVec {x : I} : (dec x : Option TVec) = decTVec x := rfl
theorem eta_TVec {x : TVec} : TVec.mk x.counts = x := rfl
theorem cellsV_TVec {x : TVec} : cellsV x = [.i (enc x.counts)] := rfl

structure TReg where
  stamp : TStamp
  text : ByteArray
  deriving DecidableEq

def decTReg : I → Option TReg
  | .agg [.s (.int .i64 v0), .s (.int .i64 v1), .s (.string v2)] => some ⟨⟨v0, v1⟩, v2⟩
  | _ => none
instance : Pic TReg where
  z := 3
  ag := true
  enc x := .agg [iN x.stamp.time, iN x.stamp.actor, iS x.text]
  dec := decTReg
  dec_enc _ := rfl
  len _ := rfl
  pos := by decide
  one := .inl rfl
  row _ := rfl
  dec_sub x a h := by
    unfold decTReg at h
    split at h
    · cases h; exact .refl _
    · cases h
theorem z_TReg : Pic.z TReg = 3 := rfl
theorem ag_TReg : Pic.ag TReg = true := rfl
theorem enc_TReg {x : TReg} : enc x = .agg [iN x.stamp.time, iN x.stamp.actor, iS x.text] := rfl
theorem dec_TReg {x : I} : (dec x : Option TReg) = decTReg x := rfl
theorem eta_TReg {x : TReg} : TReg.mk x.stamp x.text = x := rfl
theorem cellsV_TReg {x : TReg} : cellsV x = [.i (iN x.stamp.time), .i (iN x.stamp.actor), .i (iS x.text)] := rfl
theorem eq_TReg {x y : TReg} : eqL [.int .i64 (x.stamp.time), .int .i64 (x.stamp.actor), .string (x.text)] [.int .i64 (y.stamp.time), .int .i64 (y.stamp.actor), .string (y.text)] = decide (x = y) := by
  obtain ⟨⟨a0, a1⟩, a2⟩ := x
  obtain ⟨⟨b0, b1⟩, b2⟩ := y
  simp [eqL, eqV, Bool.decide_and, Bool.and_assoc, Bool.beq_eq_decide_eq]

structure TEntry where
  stamp : TStamp
  text : ByteArray
  deriving DecidableEq

def decTEntry : I → Option TEntry
  | .agg [.s (.int .i64 v0), .s (.int .i64 v1), .s (.string v2)] => some ⟨⟨v0, v1⟩, v2⟩
  | _ => none
instance : Pic TEntry where
  z := 3
  ag := true
  enc x := .agg [iN x.stamp.time, iN x.stamp.actor, iS x.text]
  dec := decTEntry
  dec_enc _ := rfl
  len _ := rfl
  pos := by decide
  one := .inl rfl
  row _ := rfl
  dec_sub x a h := by
    unfold decTEntry at h
    split at h
    · cases h; exact .refl _
    · cases h
theorem z_TEntry : Pic.z TEntry = 3 := rfl
theorem ag_TEntry : Pic.ag TEntry = true := rfl
theorem enc_TEntry {x : TEntry} : enc x = .agg [iN x.stamp.time, iN x.stamp.actor, iS x.text] := rfl
theorem dec_TEntry {x : I} : (dec x : Option TEntry) = decTEntry x := rfl
theorem eta_TEntry {x : TEntry} : TEntry.mk x.stamp x.text = x := rfl
theorem cellsV_TEntry {x : TEntry} : cellsV x = [.i (iN x.stamp.time), .i (iN x.stamp.actor), .i (iS x.text)] := rfl
theorem eq_TEntry {x y : TEntry} : eqL [.int .i64 (x.stamp.time), .int .i64 (x.stamp.actor), .string (x.text)] [.int .i64 (y.stamp.time), .int .i64 (y.stamp.actor), .string (y.text)] = decide (x = y) := by
  obtain ⟨⟨a0, a1⟩, a2⟩ := x
  obtain ⟨⟨b0, b1⟩, b2⟩ := y
  simp [eqL, eqV, Bool.decide_and, Bool.and_assoc, Bool.beq_eq_decide_eq]

structure TMulti where
  seen : TVec
  entries : List TEntry
  deriving DecidableEq

def decTMulti : I → Option TMulti
  | .agg [v0, v1] => (dec v0).bind fun v0 => (dec v1).bind fun v1 => some ⟨⟨v0⟩, v1⟩
  | _ => none
instance : Pic TMulti where
  z := 2
  ag := true
  enc x := .agg [enc x.seen.counts, enc x.entries]
  dec := decTMulti
  dec_enc x := by simp [decTMulti, dec_enc]
  len _ := rfl
  pos := by decide
  one := .inl rfl
  row _ := rfl
  dec_sub x a h := by
    unfold decTMulti at h
    split at h
    · obtain ⟨l0, h0, h⟩ := Option.bind_eq_some_iff.1 h
      obtain ⟨l1, h1, h⟩ := Option.bind_eq_some_iff.1 h
      cases h
      exact .agg (.cons (dec_sub _ _ h0) (.cons (dec_sub _ _ h1) .nil))
    · cases h
theorem z_TMulti : Pic.z TMulti = 2 := rfl
theorem ag_TMulti : Pic.ag TMulti = true := rfl
theorem enc_TMulti {x : TMulti} : enc x = .agg [enc x.seen.counts, enc x.entries] := rfl
theorem dec_TMulti {x : I} : (dec x : Option TMulti) = decTMulti x := rfl
theorem eta_TMulti {x : TMulti} : TMulti.mk x.seen x.entries = x := rfl
theorem cellsV_TMulti {x : TMulti} : cellsV x = [.i (enc x.seen.counts), .i (enc x.entries)] := rfl

structure TCounter where
  plus : TVec
  minus : TVec
  deriving DecidableEq

def decTCounter : I → Option TCounter
  | .agg [v0, v1] => (dec v0).bind fun v0 => (dec v1).bind fun v1 => some ⟨⟨v0⟩, ⟨v1⟩⟩
  | _ => none
instance : Pic TCounter where
  z := 2
  ag := true
  enc x := .agg [enc x.plus.counts, enc x.minus.counts]
  dec := decTCounter
  dec_enc x := by simp [decTCounter, dec_enc]
  len _ := rfl
  pos := by decide
  one := .inl rfl
  row _ := rfl
  dec_sub x a h := by
    unfold decTCounter at h
    split at h
    · obtain ⟨l0, h0, h⟩ := Option.bind_eq_some_iff.1 h
      obtain ⟨l1, h1, h⟩ := Option.bind_eq_some_iff.1 h
      cases h
      exact .agg (.cons (dec_sub _ _ h0) (.cons (dec_sub _ _ h1) .nil))
    · cases h
theorem z_TCounter : Pic.z TCounter = 2 := rfl
theorem ag_TCounter : Pic.ag TCounter = true := rfl
theorem enc_TCounter {x : TCounter} : enc x = .agg [enc x.plus.counts, enc x.minus.counts] := rfl
theorem dec_TCounter {x : I} : (dec x : Option TCounter) = decTCounter x := rfl
theorem eta_TCounter {x : TCounter} : TCounter.mk x.plus x.minus = x := rfl
theorem cellsV_TCounter {x : TCounter} : cellsV x = [.i (enc x.plus.counts), .i (enc x.minus.counts)] := rfl

structure TLOp where
  kind : Int
  char : Int
  id : TStamp
  at_ : TStamp
  deriving DecidableEq

def decTLOp : I → Option TLOp
  | .agg [.s (.int .i64 v0), .s (.int .i64 v1), .s (.int .i64 v2), .s (.int .i64 v3), .s (.int .i64 v4), .s (.int .i64 v5)] => some ⟨v0, v1, ⟨v2, v3⟩, ⟨v4, v5⟩⟩
  | _ => none
instance : Pic TLOp where
  z := 6
  ag := true
  enc x := .agg [iN x.kind, iN x.char, iN x.id.time, iN x.id.actor, iN x.at_.time, iN x.at_.actor]
  dec := decTLOp
  dec_enc _ := rfl
  len _ := rfl
  pos := by decide
  one := .inl rfl
  row _ := rfl
  dec_sub x a h := by
    unfold decTLOp at h
    split at h
    · cases h; exact .refl _
    · cases h
theorem z_TLOp : Pic.z TLOp = 6 := rfl
theorem ag_TLOp : Pic.ag TLOp = true := rfl
theorem enc_TLOp {x : TLOp} : enc x = .agg [iN x.kind, iN x.char, iN x.id.time, iN x.id.actor, iN x.at_.time, iN x.at_.actor] := rfl
theorem dec_TLOp {x : I} : (dec x : Option TLOp) = decTLOp x := rfl
theorem eta_TLOp {x : TLOp} : TLOp.mk x.kind x.char x.id x.at_ = x := rfl
theorem cellsV_TLOp {x : TLOp} : cellsV x = [.i (iN x.kind), .i (iN x.char), .i (iN x.id.time), .i (iN x.id.actor), .i (iN x.at_.time), .i (iN x.at_.actor)] := rfl
theorem eq_TLOp {x y : TLOp} : eqL [.int .i64 (x.kind), .int .i64 (x.char), .int .i64 (x.id.time), .int .i64 (x.id.actor), .int .i64 (x.at_.time), .int .i64 (x.at_.actor)] [.int .i64 (y.kind), .int .i64 (y.char), .int .i64 (y.id.time), .int .i64 (y.id.actor), .int .i64 (y.at_.time), .int .i64 (y.at_.actor)] = decide (x = y) := by
  obtain ⟨a0, a1, ⟨a2, a3⟩, ⟨a4, a5⟩⟩ := x
  obtain ⟨b0, b1, ⟨b2, b3⟩, ⟨b4, b5⟩⟩ := y
  simp [eqL, eqV, Bool.decide_and, Bool.and_assoc, Bool.beq_eq_decide_eq]

structure TMark where
  id : TStamp
  from_ : TStamp
  to : TStamp
  kind : Int
  on : Bool
  deriving DecidableEq

def decTMark : I → Option TMark
  | .agg [.s (.int .i64 v0), .s (.int .i64 v1), .s (.int .i64 v2), .s (.int .i64 v3), .s (.int .i64 v4), .s (.int .i64 v5), .s (.int .i64 v6), .s (.bool v7)] => some ⟨⟨v0, v1⟩, ⟨v2, v3⟩, ⟨v4, v5⟩, v6, v7⟩
  | _ => none
instance : Pic TMark where
  z := 8
  ag := true
  enc x := .agg [iN x.id.time, iN x.id.actor, iN x.from_.time, iN x.from_.actor, iN x.to.time, iN x.to.actor, iN x.kind, iB x.on]
  dec := decTMark
  dec_enc _ := rfl
  len _ := rfl
  pos := by decide
  one := .inl rfl
  row _ := rfl
  dec_sub x a h := by
    unfold decTMark at h
    split at h
    · cases h; exact .refl _
    · cases h
theorem z_TMark : Pic.z TMark = 8 := rfl
theorem ag_TMark : Pic.ag TMark = true := rfl
theorem enc_TMark {x : TMark} : enc x = .agg [iN x.id.time, iN x.id.actor, iN x.from_.time, iN x.from_.actor, iN x.to.time, iN x.to.actor, iN x.kind, iB x.on] := rfl
theorem dec_TMark {x : I} : (dec x : Option TMark) = decTMark x := rfl
theorem eta_TMark {x : TMark} : TMark.mk x.id x.from_ x.to x.kind x.on = x := rfl
theorem cellsV_TMark {x : TMark} : cellsV x = [.i (iN x.id.time), .i (iN x.id.actor), .i (iN x.from_.time), .i (iN x.from_.actor), .i (iN x.to.time), .i (iN x.to.actor), .i (iN x.kind), .i (iB x.on)] := rfl
theorem eq_TMark {x y : TMark} : eqL [.int .i64 (x.id.time), .int .i64 (x.id.actor), .int .i64 (x.from_.time), .int .i64 (x.from_.actor), .int .i64 (x.to.time), .int .i64 (x.to.actor), .int .i64 (x.kind), .bool (x.on)] [.int .i64 (y.id.time), .int .i64 (y.id.actor), .int .i64 (y.from_.time), .int .i64 (y.from_.actor), .int .i64 (y.to.time), .int .i64 (y.to.actor), .int .i64 (y.kind), .bool (y.on)] = decide (x = y) := by
  obtain ⟨⟨a0, a1⟩, ⟨a2, a3⟩, ⟨a4, a5⟩, a6, a7⟩ := x
  obtain ⟨⟨b0, b1⟩, ⟨b2, b3⟩, ⟨b4, b5⟩, b6, b7⟩ := y
  simp [eqL, eqV, Bool.decide_and, Bool.and_assoc, Bool.beq_eq_decide_eq]

structure TMove where
  id : TStamp
  node : Int
  parent : Int
  name : ByteArray
  deriving DecidableEq

def decTMove : I → Option TMove
  | .agg [.s (.int .i64 v0), .s (.int .i64 v1), .s (.int .i64 v2), .s (.int .i64 v3), .s (.string v4)] => some ⟨⟨v0, v1⟩, v2, v3, v4⟩
  | _ => none
instance : Pic TMove where
  z := 5
  ag := true
  enc x := .agg [iN x.id.time, iN x.id.actor, iN x.node, iN x.parent, iS x.name]
  dec := decTMove
  dec_enc _ := rfl
  len _ := rfl
  pos := by decide
  one := .inl rfl
  row _ := rfl
  dec_sub x a h := by
    unfold decTMove at h
    split at h
    · cases h; exact .refl _
    · cases h
theorem z_TMove : Pic.z TMove = 5 := rfl
theorem ag_TMove : Pic.ag TMove = true := rfl
theorem enc_TMove {x : TMove} : enc x = .agg [iN x.id.time, iN x.id.actor, iN x.node, iN x.parent, iS x.name] := rfl
theorem dec_TMove {x : I} : (dec x : Option TMove) = decTMove x := rfl
theorem eta_TMove {x : TMove} : TMove.mk x.id x.node x.parent x.name = x := rfl
theorem cellsV_TMove {x : TMove} : cellsV x = [.i (iN x.id.time), .i (iN x.id.actor), .i (iN x.node), .i (iN x.parent), .i (iS x.name)] := rfl
theorem eq_TMove {x y : TMove} : eqL [.int .i64 (x.id.time), .int .i64 (x.id.actor), .int .i64 (x.node), .int .i64 (x.parent), .string (x.name)] [.int .i64 (y.id.time), .int .i64 (y.id.actor), .int .i64 (y.node), .int .i64 (y.parent), .string (y.name)] = decide (x = y) := by
  obtain ⟨⟨a0, a1⟩, a2, a3, a4⟩ := x
  obtain ⟨⟨b0, b1⟩, b2, b3, b4⟩ := y
  simp [eqL, eqV, Bool.decide_and, Bool.and_assoc, Bool.beq_eq_decide_eq]

structure TNode where
  node : Int
  parent : Int
  name : ByteArray
  deriving DecidableEq

def decTNode : I → Option TNode
  | .agg [.s (.int .i64 v0), .s (.int .i64 v1), .s (.string v2)] => some ⟨v0, v1, v2⟩
  | _ => none
instance : Pic TNode where
  z := 3
  ag := true
  enc x := .agg [iN x.node, iN x.parent, iS x.name]
  dec := decTNode
  dec_enc _ := rfl
  len _ := rfl
  pos := by decide
  one := .inl rfl
  row _ := rfl
  dec_sub x a h := by
    unfold decTNode at h
    split at h
    · cases h; exact .refl _
    · cases h
theorem z_TNode : Pic.z TNode = 3 := rfl
theorem ag_TNode : Pic.ag TNode = true := rfl
theorem enc_TNode {x : TNode} : enc x = .agg [iN x.node, iN x.parent, iS x.name] := rfl
theorem dec_TNode {x : I} : (dec x : Option TNode) = decTNode x := rfl
theorem eta_TNode {x : TNode} : TNode.mk x.node x.parent x.name = x := rfl
theorem cellsV_TNode {x : TNode} : cellsV x = [.i (iN x.node), .i (iN x.parent), .i (iS x.name)] := rfl
theorem eq_TNode {x y : TNode} : eqL [.int .i64 (x.node), .int .i64 (x.parent), .string (x.name)] [.int .i64 (y.node), .int .i64 (y.parent), .string (y.name)] = decide (x = y) := by
  obtain ⟨a0, a1, a2⟩ := x
  obtain ⟨b0, b1, b2⟩ := y
  simp [eqL, eqV, Bool.decide_and, Bool.and_assoc, Bool.beq_eq_decide_eq]

structure TOp where
  actor : Int
  seq : Int
  time : Int
  deps : TVec
  kind : Int
  obj : Int
  n : Int
  undo : Int
  at_ : TStamp
  key : ByteArray
  text : ByteArray
  deriving DecidableEq

def decTOp : I → Option TOp
  | .agg [.s (.int .i64 v0), .s (.int .i64 v1), .s (.int .i64 v2), v3, .s (.int .i64 v4), .s (.int .i64 v5), .s (.int .i64 v6), .s (.int .i64 v7), .s (.int .i64 v8), .s (.int .i64 v9), .s (.string v10), .s (.string v11)] => (dec v3).bind fun v3 => some ⟨v0, v1, v2, ⟨v3⟩, v4, v5, v6, v7, ⟨v8, v9⟩, v10, v11⟩
  | _ => none
instance : Pic TOp where
  z := 12
  ag := true
  enc x := .agg [iN x.actor, iN x.seq, iN x.time, enc x.deps.counts, iN x.kind, iN x.obj, iN x.n, iN x.undo, iN x.at_.time, iN x.at_.actor, iS x.key, iS x.text]
  dec := decTOp
  dec_enc x := by simp [decTOp, dec_enc]
  len _ := rfl
  pos := by decide
  one := .inl rfl
  row _ := rfl
  dec_sub x a h := by
    unfold decTOp at h
    split at h
    · obtain ⟨l0, h0, h⟩ := Option.bind_eq_some_iff.1 h
      cases h
      exact .agg (.cons (.refl _) (.cons (.refl _) (.cons (.refl _) (.cons (dec_sub _ _ h0) (.cons (.refl _) (.cons (.refl _) (.cons (.refl _) (.cons (.refl _) (.cons (.refl _) (.cons (.refl _) (.cons (.refl _) (.cons (.refl _) .nil))))))))))))
    · cases h
theorem z_TOp : Pic.z TOp = 12 := rfl
theorem ag_TOp : Pic.ag TOp = true := rfl
theorem enc_TOp {x : TOp} : enc x = .agg [iN x.actor, iN x.seq, iN x.time, enc x.deps.counts, iN x.kind, iN x.obj, iN x.n, iN x.undo, iN x.at_.time, iN x.at_.actor, iS x.key, iS x.text] := rfl
theorem dec_TOp {x : I} : (dec x : Option TOp) = decTOp x := rfl
theorem eta_TOp {x : TOp} : TOp.mk x.actor x.seq x.time x.deps x.kind x.obj x.n x.undo x.at_ x.key x.text = x := rfl
theorem cellsV_TOp {x : TOp} : cellsV x = [.i (iN x.actor), .i (iN x.seq), .i (iN x.time), .i (enc x.deps.counts), .i (iN x.kind), .i (iN x.obj), .i (iN x.n), .i (iN x.undo), .i (iN x.at_.time), .i (iN x.at_.actor), .i (iS x.key), .i (iS x.text)] := rfl

structure TCell where
  count : Int
  id : Int
  sum : Int
  deriving DecidableEq

def decTCell : I → Option TCell
  | .agg [.s (.int .i64 v0), .s (.int .i64 v1), .s (.int .i64 v2)] => some ⟨v0, v1, v2⟩
  | _ => none
instance : Pic TCell where
  z := 3
  ag := true
  enc x := .agg [iN x.count, iN x.id, iN x.sum]
  dec := decTCell
  dec_enc _ := rfl
  len _ := rfl
  pos := by decide
  one := .inl rfl
  row _ := rfl
  dec_sub x a h := by
    unfold decTCell at h
    split at h
    · cases h; exact .refl _
    · cases h
theorem z_TCell : Pic.z TCell = 3 := rfl
theorem ag_TCell : Pic.ag TCell = true := rfl
theorem enc_TCell {x : TCell} : enc x = .agg [iN x.count, iN x.id, iN x.sum] := rfl
theorem dec_TCell {x : I} : (dec x : Option TCell) = decTCell x := rfl
theorem eta_TCell {x : TCell} : TCell.mk x.count x.id x.sum = x := rfl
theorem cellsV_TCell {x : TCell} : cellsV x = [.i (iN x.count), .i (iN x.id), .i (iN x.sum)] := rfl
theorem eq_TCell {x y : TCell} : eqL [.int .i64 (x.count), .int .i64 (x.id), .int .i64 (x.sum)] [.int .i64 (y.count), .int .i64 (y.id), .int .i64 (y.sum)] = decide (x = y) := by
  obtain ⟨a0, a1, a2⟩ := x
  obtain ⟨b0, b1, b2⟩ := y
  simp [eqL, eqV, Bool.decide_and, Bool.and_assoc, Bool.beq_eq_decide_eq]

structure TSketch where
  cells : List TCell
  deriving DecidableEq

def decTSketch : I → Option TSketch
  | .agg [v0] => (dec v0).bind fun v0 => some ⟨v0⟩
  | _ => none
instance : Pic TSketch where
  z := 1
  ag := true
  enc x := .agg [enc x.cells]
  dec := decTSketch
  dec_enc x := by simp [decTSketch, dec_enc]
  len _ := rfl
  pos := by decide
  one := .inl rfl
  row _ := rfl
  dec_sub x a h := by
    unfold decTSketch at h
    split at h
    · obtain ⟨l0, h0, h⟩ := Option.bind_eq_some_iff.1 h
      cases h
      exact .agg (.cons (dec_sub _ _ h0) .nil)
    · cases h
theorem z_TSketch : Pic.z TSketch = 1 := rfl
theorem ag_TSketch : Pic.ag TSketch = true := rfl
theorem enc_TSketch {x : TSketch} : enc x = .agg [enc x.cells] := rfl
theorem dec_TSketch {x : I} : (dec x : Option TSketch) = decTSketch x := rfl
theorem eta_TSketch {x : TSketch} : TSketch.mk x.cells = x := rfl
theorem cellsV_TSketch {x : TSketch} : cellsV x = [.i (enc x.cells)] := rfl

structure TStep where
  kind : Int
  name : ByteArray
  to : ByteArray
  text : ByteArray
  deriving DecidableEq

def decTStep : I → Option TStep
  | .agg [.s (.int .i64 v0), .s (.string v1), .s (.string v2), .s (.string v3)] => some ⟨v0, v1, v2, v3⟩
  | _ => none
instance : Pic TStep where
  z := 4
  ag := true
  enc x := .agg [iN x.kind, iS x.name, iS x.to, iS x.text]
  dec := decTStep
  dec_enc _ := rfl
  len _ := rfl
  pos := by decide
  one := .inl rfl
  row _ := rfl
  dec_sub x a h := by
    unfold decTStep at h
    split at h
    · cases h; exact .refl _
    · cases h
theorem z_TStep : Pic.z TStep = 4 := rfl
theorem ag_TStep : Pic.ag TStep = true := rfl
theorem enc_TStep {x : TStep} : enc x = .agg [iN x.kind, iS x.name, iS x.to, iS x.text] := rfl
theorem dec_TStep {x : I} : (dec x : Option TStep) = decTStep x := rfl
theorem eta_TStep {x : TStep} : TStep.mk x.kind x.name x.to x.text = x := rfl
theorem cellsV_TStep {x : TStep} : cellsV x = [.i (iN x.kind), .i (iS x.name), .i (iS x.to), .i (iS x.text)] := rfl
theorem eq_TStep {x y : TStep} : eqL [.int .i64 (x.kind), .string (x.name), .string (x.to), .string (x.text)] [.int .i64 (y.kind), .string (y.name), .string (y.to), .string (y.text)] = decide (x = y) := by
  obtain ⟨a0, a1, a2, a3⟩ := x
  obtain ⟨b0, b1, b2, b3⟩ := y
  simp [eqL, eqV, Bool.decide_and, Bool.and_assoc, Bool.beq_eq_decide_eq]

structure TPair where
  name : ByteArray
  text : ByteArray
  deriving DecidableEq

def decTPair : I → Option TPair
  | .agg [.s (.string v0), .s (.string v1)] => some ⟨v0, v1⟩
  | _ => none
instance : Pic TPair where
  z := 2
  ag := true
  enc x := .agg [iS x.name, iS x.text]
  dec := decTPair
  dec_enc _ := rfl
  len _ := rfl
  pos := by decide
  one := .inl rfl
  row _ := rfl
  dec_sub x a h := by
    unfold decTPair at h
    split at h
    · cases h; exact .refl _
    · cases h
theorem z_TPair : Pic.z TPair = 2 := rfl
theorem ag_TPair : Pic.ag TPair = true := rfl
theorem enc_TPair {x : TPair} : enc x = .agg [iS x.name, iS x.text] := rfl
theorem dec_TPair {x : I} : (dec x : Option TPair) = decTPair x := rfl
theorem eta_TPair {x : TPair} : TPair.mk x.name x.text = x := rfl
theorem cellsV_TPair {x : TPair} : cellsV x = [.i (iS x.name), .i (iS x.text)] := rfl
theorem eq_TPair {x y : TPair} : eqL [.string (x.name), .string (x.text)] [.string (y.name), .string (y.text)] = decide (x = y) := by
  obtain ⟨a0, a1⟩ := x
  obtain ⟨b0, b1⟩ := y
  simp [eqL, eqV, Bool.decide_and, Bool.and_assoc, Bool.beq_eq_decide_eq]

structure TSpan where
  text : ByteArray
  kinds : List Int
  deriving DecidableEq

def decTSpan : I → Option TSpan
  | .agg [.s (.string v0), v1] => (dec v1).bind fun v1 => some ⟨v0, v1⟩
  | _ => none
instance : Pic TSpan where
  z := 2
  ag := true
  enc x := .agg [iS x.text, enc x.kinds]
  dec := decTSpan
  dec_enc x := by simp [decTSpan, dec_enc]
  len _ := rfl
  pos := by decide
  one := .inl rfl
  row _ := rfl
  dec_sub x a h := by
    unfold decTSpan at h
    split at h
    · obtain ⟨l0, h0, h⟩ := Option.bind_eq_some_iff.1 h
      cases h
      exact .agg (.cons (.refl _) (.cons (dec_sub _ _ h0) .nil))
    · cases h
theorem z_TSpan : Pic.z TSpan = 2 := rfl
theorem ag_TSpan : Pic.ag TSpan = true := rfl
theorem enc_TSpan {x : TSpan} : enc x = .agg [iS x.text, enc x.kinds] := rfl
theorem dec_TSpan {x : I} : (dec x : Option TSpan) = decTSpan x := rfl
theorem eta_TSpan {x : TSpan} : TSpan.mk x.text x.kinds = x := rfl
theorem cellsV_TSpan {x : TSpan} : cellsV x = [.i (iS x.text), .i (enc x.kinds)] := rfl

structure TLCell where
  id : TStamp
  char : Int
  seen : Bool
  deriving DecidableEq

def decTLCell : I → Option TLCell
  | .agg [.s (.int .i64 v0), .s (.int .i64 v1), .s (.int .i64 v2), .s (.bool v3)] => some ⟨⟨v0, v1⟩, v2, v3⟩
  | _ => none
instance : Pic TLCell where
  z := 4
  ag := true
  enc x := .agg [iN x.id.time, iN x.id.actor, iN x.char, iB x.seen]
  dec := decTLCell
  dec_enc _ := rfl
  len _ := rfl
  pos := by decide
  one := .inl rfl
  row _ := rfl
  dec_sub x a h := by
    unfold decTLCell at h
    split at h
    · cases h; exact .refl _
    · cases h
theorem z_TLCell : Pic.z TLCell = 4 := rfl
theorem ag_TLCell : Pic.ag TLCell = true := rfl
theorem enc_TLCell {x : TLCell} : enc x = .agg [iN x.id.time, iN x.id.actor, iN x.char, iB x.seen] := rfl
theorem dec_TLCell {x : I} : (dec x : Option TLCell) = decTLCell x := rfl
theorem eta_TLCell {x : TLCell} : TLCell.mk x.id x.char x.seen = x := rfl
theorem cellsV_TLCell {x : TLCell} : cellsV x = [.i (iN x.id.time), .i (iN x.id.actor), .i (iN x.char), .i (iB x.seen)] := rfl
theorem eq_TLCell {x y : TLCell} : eqL [.int .i64 (x.id.time), .int .i64 (x.id.actor), .int .i64 (x.char), .bool (x.seen)] [.int .i64 (y.id.time), .int .i64 (y.id.actor), .int .i64 (y.char), .bool (y.seen)] = decide (x = y) := by
  obtain ⟨⟨a0, a1⟩, a2, a3⟩ := x
  obtain ⟨⟨b0, b1⟩, b2, b3⟩ := y
  simp [eqL, eqV, Bool.decide_and, Bool.and_assoc, Bool.beq_eq_decide_eq]

end Go.AM
