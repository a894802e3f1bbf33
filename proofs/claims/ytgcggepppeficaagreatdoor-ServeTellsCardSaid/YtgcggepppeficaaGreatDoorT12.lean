/- T12: a part of the proof. -/
import Derived.Test.YtgcggepppeficaaGreatDoorT11
set_option linter.all false
set_option linter.unusedVariables false
set_option linter.unnecessarySimpa false
set_option linter.unusedSimpArgs false
set_option linter.unusedSimpArgs false
namespace T1
open Go SX Go.Proofs

theorem lay170 : layA Tryz.prog 170 2 0 170 = true := by kernel_rfl
theorem st99 : Extern.find Tryz.f99 = some Extern.AbiNoEscape.same := by kernel_rfl
attribute [local go_sem] lay170

set_option maxRecDepth 100000 in
set_option maxHeartbeats 1000000 in
theorem Builder_copyCheck0 : ACall Tryz.prog 91 [.ptr 0 0] [.box 170 [.nilptr, .nilsl]] (.tup []) [.box 170 [.ptr 0 0, .nilsl]] := by
  refine acall_ex Tryz.func91 (by kernel_rfl) rfl Tryz.ntmps91 (by simp) fun w ok0 ι hι => ?_
  simp [go_sem]
  refine ext_ex rfl rfl rfl rfl (ext_same Tryz.func99 (by kernel_rfl) rfl (by kernel_rfl) st99) ?_
  simp [go_sem]
  refine fin_ex 1 [] (.inr rfl) hι Tryz.results91 ?_
  simp [go_sem]

set_option maxRecDepth 100000 in
set_option maxHeartbeats 1000000 in
theorem Builder_copyCheck1 (e m fl o n : Nat) (l : List (List AV)) : ACall Tryz.prog 91 [.ptr 0 0] [.box 170 [.ptr 0 0, .own 1 m o n], .rows e m fl l] (.tup []) [.box 170 [.ptr 0 0, .own 1 m o n], .rows e m fl l] := by
  refine acall_ex Tryz.func91 (by kernel_rfl) rfl Tryz.ntmps91 (by simp) fun w ok0 ι hι => ?_
  simp [go_sem]
  refine fin_ex 2 [] (.inr rfl) hι Tryz.results91 ?_
  simp [go_sem]

/-- WriteString, the first time. -/
theorem Builder_Write0 (s : List UInt8) (hs : s ≠ []) (hl : s.length < 100000000000000) : ACall Tryz.prog 78 [.ptr 0 0, .str s] [.box 170 [.nilptr, .nilsl]] (.tup [.int .i64 s.length, .niliface]) [.box 170 [.ptr 0 0, .own 1 1 0 s.length], .rows 5 1 1 (bytesA s)] := by
  refine acall_ex Tryz.func78 (by kernel_rfl) rfl Tryz.ntmps78 (by simp) fun w ok0 ι hι => ?_
  simp [go_sem]
  refine call_at [0] Builder_copyCheck0 rfl rfl rfl rfl rfl (by simp) (by simp) (by simp [go_sem]) (by simp [go_sem]) ?_
  simp [go_sem, out]
  have h1 : 1 ≤ s.length := List.length_pos_iff.2 hs
  refine ⟨⟨by simp [maxLen]; omega, by omega, h1⟩, ?_⟩
  refine fin_ex 1 [1] (.inl rfl) hι Tryz.results78 ?_
  simp [go_sem]

theorem Builder_Write (t s : List UInt8) (ht : t ≠ []) (hl : t.length + s.length < 100000000000000) : ACall Tryz.prog 78 [.ptr 0 0, .str s] [.box 170 [.ptr 0 0, .own 1 1 0 t.length], .rows 5 1 1 (bytesA t)] (.tup [.int .i64 s.length, .niliface]) [.box 170 [.ptr 0 0, .own 2 1 0 (t ++ s).length], .dead, .rows 5 1 1 (bytesA (t ++ s))] := by
  refine acall_ex Tryz.func78 (by kernel_rfl) rfl Tryz.ntmps78 (by simp) fun w ok0 ι hι => ?_
  simp [go_sem]
  refine call_at [0, 1] (Builder_copyCheck1 5 1 1 0 t.length (bytesA t)) rfl rfl rfl rfl rfl (by simp) (by simp [go_sem]) (by simp [go_sem]) (by simp [go_sem]) ?_
  simp [go_sem, out]
  refine ⟨⟨by simp [maxLen]; omega, by omega⟩, ?_⟩
  refine fin_ex 2 [2] (.inl rfl) hι Tryz.results78 ?_
  simp [go_sem]

set_option maxRecDepth 100000 in
set_option maxHeartbeats 1000000 in
theorem Builder_Len0 : ACall Tryz.prog 77 [.ptr 0 0] [.box 170 [.nilptr, .nilsl]] (.int .i64 0) [.box 170 [.nilptr, .nilsl]] := by
  refine acall_ex Tryz.func77 (by kernel_rfl) rfl Tryz.ntmps77 (by simp) fun w ok0 ι hι => ?_
  simp [go_sem]
  refine fin_ex 1 [] (.inl rfl) hι Tryz.results77 ?_
  simp [go_sem]

set_option maxRecDepth 100000 in
set_option maxHeartbeats 1000000 in
theorem Builder_Len (t : List UInt8) : ACall Tryz.prog 77 [.ptr 0 0] [.box 170 [.ptr 0 0, .own 1 1 0 t.length], .rows 5 1 1 (bytesA t)] (.int .i64 t.length) [.box 170 [.ptr 0 0, .own 1 1 0 t.length], .rows 5 1 1 (bytesA t)] := by
  refine acall_ex Tryz.func77 (by kernel_rfl) rfl Tryz.ntmps77 (by simp) fun w ok0 ι hι => ?_
  simp [go_sem]
  refine fin_ex 2 [] (.inl rfl) hι Tryz.results77 ?_
  simp [go_sem]

set_option maxRecDepth 100000 in
set_option maxHeartbeats 1000000 in
theorem Builder_String0 : ACall Tryz.prog 80 [.ptr 0 0] [.box 170 [.nilptr, .nilsl]] (.str []) [.box 170 [.nilptr, .nilsl]] := by
  refine acall_ex Tryz.func80 (by kernel_rfl) rfl Tryz.ntmps80 (by simp) fun w ok0 ι hι => ?_
  simp [go_sem]
  refine draw_new 10 0 [] (by kernel_rfl) (by simp [go_sem, hι]) fun ops1 okD hok => ?_
  simp [go_sem]
  refine ⟨hok _ (by kernel_rfl), ?_⟩
  refine fin_ex 1 [] (.inl rfl) hι Tryz.results80 ?_
  simp [go_sem]

set_option maxRecDepth 100000 in
set_option maxHeartbeats 1000000 in
theorem Builder_String (t : List UInt8) (ht : t ≠ []) (hl : t.length < 100000000000000) : ACall Tryz.prog 80 [.ptr 0 0] [.box 170 [.ptr 0 0, .own 1 1 0 t.length], .rows 5 1 1 (bytesA t)] (.str t) [.box 170 [.ptr 0 0, .own 1 1 0 t.length], .rows 5 1 3 (bytesA t)] := by
  refine acall_ex Tryz.func80 (by kernel_rfl) rfl Tryz.ntmps80 (by simp) fun w ok0 ι hι => ?_
  simp [go_sem]
  have h1 : 1 ≤ t.length := List.length_pos_iff.2 ht
  refine draw_new 10 0 [] (by kernel_rfl) (by simp [go_sem, hι]) fun ops1 okD hok => ?_
  simp [go_sem]
  refine ⟨by omega, hok _ (by kernel_rfl), by omega, ?_⟩
  refine fin_ex 2 [] (.inl rfl) hι Tryz.results80 ?_
  simp [go_sem]
end T1
