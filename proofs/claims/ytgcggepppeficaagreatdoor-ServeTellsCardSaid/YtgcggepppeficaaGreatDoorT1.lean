/- T1: a part of the proof. -/
import Derived.Test.YtgcggepppeficaaGreatDoorT0
set_option linter.all false
set_option linter.unusedVariables false
set_option linter.unnecessarySimpa false
set_option linter.unusedSimpArgs false
set_option linter.unusedSimpArgs false
namespace T1
open Go SX Go.Proofs
structure Rkey where
  id : Int
  key : List UInt8
  made : Int
  deriving DecidableEq
structure Ring where
  keys : List Rkey
  next : Int
  deriving DecidableEq
@[go_sem] def Rkey.av (k : Rkey) : List AV := [.int .u32 k.id, .str k.key, .int .i64 k.made]
@[go_sem] def Ring.cs (r : Ring) : List AV := [.xs 3 (r.keys.map Rkey.av), .int .u32 r.next]
@[go_sem] def Ring.av (r : Ring) : AV := .agg r.cs

set_option maxHeartbeats 400000 in
theorem ring_ids (r : Ring) : ACall Tryz.prog 28 [r.av] [] (.func (.func 43) [] [.ptr 0 0]) [.box 25 r.cs] := by
  refine acall_ex Tryz.func28 (by kernel_rfl) rfl Tryz.ntmps28 (by simp) fun w ok0 ι hι => ?_
  simp [go_sem]
  refine AE_fin (.inl rfl) 0 [0] hι (by simp only [Tryz.results28]; rfl) (by simp [go_sem]) ?_ ?_ ?_ ?_ ?_ ?_
  all_goals simp [go_sem, livesTo, pubV, pubVL, tupA, pubA, AV.ren, AV.renL, finB, Blk.pubV, Blk.pub, Blk.ren, pubL, Sub.refl, SubB.refl]

end T1
