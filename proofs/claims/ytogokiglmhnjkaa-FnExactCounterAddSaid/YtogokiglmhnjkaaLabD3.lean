/- More of the program's data, typed, and its pictures. No condition. -/
import Derived.Test.YtogokiglmhnjkaaLabB33
set_option linter.unusedVariables false
set_option linter.unusedSimpArgs false
namespace Go.AM
open Pic (enc dec dec_enc dec_sub)

structure TReader where
  b : List U8
  at_ : Int
  bad : Bool
  deriving DecidableEq

def decTReader : I → Option TReader
  | .agg [v0, .s (.int .i64 v1), .s (.bool v2)] => (dec v0).bind fun v0 => some ⟨v0, v1, v2⟩
  | _ => none
instance : Pic TReader where
  z := 3
  ag := true
  enc x := .agg [enc x.b, iN x.at_, iB x.bad]
  dec := decTReader
  dec_enc x := by simp [decTReader, dec_enc]
  len _ := rfl
  pos := by decide
  one := .inl rfl
  row _ := rfl
  dec_sub x a h := by
    unfold decTReader at h
    split at h
    · obtain ⟨l0, h0, h⟩ := Option.bind_eq_some_iff.1 h
      cases h
      exact .agg (.cons (dec_sub _ _ h0) (.cons (.refl _) (.cons (.refl _) .nil)))
    · cases h
theorem z_TReader : Pic.z TReader = 3 := rfl
theorem ag_TReader : Pic.ag TReader = true := rfl
theorem enc_TReader {x : TReader} : enc x = .agg [enc x.b, iN x.at_, iB x.bad] := rfl
theorem dec_TReader {x : I} : (dec x : Option TReader) = decTReader x := rfl
theorem eta_TReader {x : TReader} : TReader.mk x.b x.at_ x.bad = x := rfl
theorem cellsV_TReader {x : TReader} : cellsV x = [.i (enc x.b), .i (iN x.at_), .i (iB x.bad)] := rfl
instance : OneC TReader := ⟨fun _ => rfl⟩

end Go.AM
