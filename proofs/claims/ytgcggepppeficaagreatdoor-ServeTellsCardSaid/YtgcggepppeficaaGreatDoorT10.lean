/- T10: a part of the proof. -/
import Derived.Test.YtgcggepppeficaaGreatDoorT9
set_option linter.all false
set_option linter.unusedVariables false
set_option linter.unnecessarySimpa false
set_option linter.unusedSimpArgs false
set_option linter.unusedSimpArgs false
namespace T1
open Go SX Go.Proofs

set_option maxRecDepth 100000 in
set_option maxHeartbeats 1000000 in
theorem wire_fits (n a b : Int) : ACall Tryz.prog 54 [.int .i64 n, .int .i64 a, .int .i64 b] [] (.bool (decide (a ≤ n) && decide (n ≤ b))) [] := by
  refine acall_ex Tryz.func54 (by kernel_rfl) rfl Tryz.ntmps54 (by simp) fun w ok0 ι hι => ?_
  simp [go_sem]
  refine fin0 (.inl rfl) hι Tryz.results54 ?_
  simp [go_sem]

/-- A whole number's lowest byte. -/
def byteOf (x : Int) : UInt8 := UInt8.ofNat (x % 256).toNat
theorem u8_byte (x : Int) : IntKind.u8.wrap x = ((byteOf x).toNat : Int) := by
  rw [wrap8, byteOf]
  have : (x % 256).toNat < 256 := by omega
  simp [UInt8.toNat_ofNat']
  omega

set_option maxRecDepth 100000 in
set_option maxHeartbeats 1000000 in
theorem wire_two (n : Int) : ACall Tryz.prog 79 [.int .i64 n] [] (.str [byteOf (n / 256), byteOf n]) [] := by
  refine acall_ex Tryz.func79 (by kernel_rfl) rfl Tryz.ntmps79 (by simp) fun w ok0 ι hι => ?_
  simp [go_sem, u8_byte]
  have e : n.fdiv 256 = n / 256 := Int.fdiv_eq_ediv_of_nonneg _ (by omega)
  rw [e]
  refine ⟨by simp [bytesA, strOf], ?_⟩
  refine fin0 (.inl rfl) hι Tryz.results79 ?_
  simp [go_sem, strOf]
end T1
