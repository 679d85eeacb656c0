/- The program's data, typed. No condition. -/
import Derived.Test.YtlfbhelaehdemaaLabA25
set_option linter.unusedVariables false
set_option linter.unusedSimpArgs false
namespace Go.AM
open Pic (enc dec dec_enc dec_sub)
open PicA (encA decA decA_encA decA_sub)

structure Stamp where
  time : Int
  actor : Int
  deriving DecidableEq

def decStamp : I → Option Stamp
  | .agg [.s (.int .i64 a), .s (.int .i64 b)] => some ⟨a, b⟩
  | _ => none
instance : Pic Stamp where
  z := 2
  enc s := .agg [iN s.time, iN s.actor]
  dec := decStamp
  dec_enc _ := rfl
  dec_sub x a h := by
    unfold decStamp at h
    split at h <;> cases h
    exact .refl _
theorem z_stamp : Pic.z Stamp = 2 := rfl
theorem enc_stamp {s : Stamp} : enc s = .agg [iN s.time, iN s.actor] := rfl

structure Vec where
  counts : List Int
  deriving DecidableEq

def decVec : I → Option Vec
  | .agg [x] => (dec x).map Vec.mk
  | _ => none
instance : Pic Vec where
  z := 1
  enc v := .agg [enc v.counts]
  dec := decVec
  dec_enc v := by simp [decVec, dec_enc]
  dec_sub x a h := by
    unfold decVec at h
    split at h
    · obtain ⟨l, h1, rfl⟩ := Option.map_eq_some_iff.1 h
      exact .agg (.cons (dec_sub _ _ h1) .nil)
    · cases h
theorem z_vec : Pic.z Vec = 1 := rfl
theorem enc_vec {v : Vec} : enc v = .agg [enc v.counts] := rfl

end Go.AM
