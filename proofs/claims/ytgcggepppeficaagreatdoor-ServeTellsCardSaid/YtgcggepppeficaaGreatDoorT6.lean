/- T6: a part of the proof. -/
import Derived.Test.YtgcggepppeficaaGreatDoorT5
set_option linter.all false
set_option linter.unusedVariables false
set_option linter.unnecessarySimpa false
set_option linter.unusedSimpArgs false
set_option linter.unusedSimpArgs false
namespace T1
open Go SX Go.Proofs
attribute [local go_sem] fe52

set_option maxRecDepth 100000 in
set_option maxHeartbeats 1000000 in
theorem law (hawake : ACall Tryz.prog 4 [] [] (.bool true) []) (x y : Ntsd) : ACall Tryz.prog 3 [x.av, y.av] [] (.bool true) [] := by
  refine acall_ex Tryz.func3 (by kernel_rfl) rfl Tryz.ntmps3 (by simp) fun w ok0 ι hι => ?_
  simp [go_sem]
  refine ⟨fun h => ?_, fun h1 h2 => ?_⟩
  · refine call_pure hawake rfl rfl rfl rfl rfl ?_
    simp [go_sem]
    refine fin0 (.inl rfl) hι Tryz.results3 ?_
    simp [go_sem]
  · have hx : x.ring.keys.length < 9223372036854775808 := by omega
    refine draw_ex [(1, pureR (.bool x.fit)), (3, pureR (.bool x.fit)), (8, pureR (.bool (decide (x = y)))), (11, pureR (.bool (decide (x = y)))), (17, pureR (.bool (decide (x = x)))), (20, pureR (.bool true))] (by kernel_rfl) fun ops1 okD hok => ?_
    have e1 := serve_Fit x
    have e2 := ref_Fit26 x
    have e3 := serve_Same x y hx
    have e4 := ref_Same26 x y hx
    have e5 := serve_Same x x hx
    simp [go_sem] at e1 e2 e3 e4 e5
    simp [go_sem, e1, e2, e3, e4, e5, hawake]
    clear e1 e2 e3 e4 e5
    refine ⟨hok _ (by kernel_rfl), ?_⟩
    refine fin0 (.inl rfl) hι Tryz.results3 ?_
    simp [go_sem]
end T1
