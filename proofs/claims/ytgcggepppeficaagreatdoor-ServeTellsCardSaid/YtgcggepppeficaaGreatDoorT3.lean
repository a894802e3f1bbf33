/- T3: a part of the proof. -/
import Derived.Test.YtgcggepppeficaaGreatDoorT2
set_option linter.all false
set_option linter.unusedVariables false
set_option linter.unnecessarySimpa false
set_option linter.unusedSimpArgs false
set_option linter.unusedSimpArgs false
namespace T1
open Go SX Go.Proofs

set_option maxRecDepth 100000 in
set_option maxHeartbeats 1000000 in
theorem ring_Fit (r : Ring) : ACall Tryz.prog 12 [r.av] [] (.bool (fit24b r)) [] := by
  refine acall_ex Tryz.func12 (by kernel_rfl) rfl Tryz.ntmps12 (by simp) fun w ok0 ι hι => ?_
  simp [go_sem]
  refine ⟨fun h => ?_, fun h1 h2 => ?_⟩
  · refine fin0 (.inl rfl) hι Tryz.results12 ?_
    have : fit24b r = false := by simp only [fit24b, decide_eq_false_iff_not]; rintro ⟨a, b, _⟩; omega
    simp [go_sem, this]
  · obtain ⟨k0, hk0⟩ : ∃ kk, r.keys[0]? = some kk := ⟨_, List.getElem?_eq_getElem (by omega)⟩
    have hL : r.keys.length < 9223372036854775808 := by omega
    simp [go_sem, hk0]
    refine ⟨by omega, ?_⟩
    refine call_ex [] (ring_ids r) rfl rfl rfl rfl (by simp [go_sem]) rfl (by simp) (by simp) (by simp) ?_
    simp [go_sem, out]
    refine weak_ex ⟨[(22, .func (.func 43) [] [.ptr 3 0]), (3, .ptr 2 0), (2, .ptr 1 0), (1, .ptr 0 0)], [.box 25 r.cs, .box 4 [.bool false], .box 2 [.int .i64 k0.made], .box 25 r.cs]⟩ (by simp [hι]) (by simp [go_sem]) (by simp [go_sem]) ?_
    refine range_ex Tryz.func43 (by kernel_rfl) rfl Tryz.ntmps43 rfl rfl (by simp) fun fid a0 D lb rc hsz hdf hrc => ?_
    simp [go_sem, hL]
    refine loop_w (γ := { k : Nat // k ≤ r.keys.length ∧ ∀ j, j < k → keyOk r j }) (fun g => ⟨[(16, .int .i64 g.1), (15, .int .i64 r.keys.length), (14, .xs 3 (r.keys.map Rkey.av)), (3, .int .u32 ((r.next - r.keys.length + g.1) % 4294967296)), (0, .func (.yield lb) [] []), (1, .ptr 3 0)],
      [.box 25 r.cs, .box 4 [.bool false], .box 2 [.int .i64 (((r.keys[g.1 - 1]?).map Rkey.made).getD 0)], .box 25 r.cs, .obj (.deferred (some [])), .obj (rc .ready none)]⟩) (fun g => r.keys.length - g.1) ⟨0, by simp, by simp⟩ (by simp [hι, go_sem]) (by simp [go_sem, wrap32, hk0]) (by simp [go_sem, hk0]) ?_
    rintro ⟨k, hk, hall⟩
    simp [go_sem]
    refine ⟨fun hlt => ?_, fun hge => ?_⟩
    · obtain ⟨kk, hkk⟩ : ∃ kk, r.keys[k]? = some kk := ⟨_, List.getElem?_eq_getElem hlt⟩
      simp [go_sem, hkk]
      refine ⟨hlt, ?_⟩
      refine yield_ex hrc hsz rfl rfl rfl rfl rfl rfl (by simp [go_sem]) fun ac ops' h3 h4 hdl => ?_
      simp [go_sem]
      refine begin_ex hrc rfl ?_
      simp [go_sem]
      refine ⟨fun hbad => ?_, fun g1 g2 g3 => ?_⟩
      · refine round_ret hrc h3 h4 hdl rfl (by rfl) ?_
        simp [go_sem]
        refine out_ret ?_
        simp [go_sem]
        refine iter_jump hrc (.inl rfl) hsz hdf Tryz.results43 rfl ?_
        simp [go_sem]
        refine mark0 (.inl rfl) hι Tryz.results12 rfl ?_
        simp [go_sem]
        refine .of_eq ?_
        congr 1
        symm
        simp only [fit24b, decide_eq_false_iff_not]; rintro ⟨a, b, c⟩
        obtain ⟨c1, c2, c3⟩ := c k kk hkk
        rw [wrap32, wrap32] at c2
        rcases hbad with (h7 | h7) | h7
        · omega
        · exact h7 (by omega)
        · cases k with
          | zero => simp [hk0] at hkk h7; subst hkk; omega
          | succ m =>
            obtain ⟨kp, hkp⟩ : ∃ kp, r.keys[m]? = some kp := ⟨_, List.getElem?_eq_getElem (by omega)⟩
            simp [hkp] at h7
            have := c3 (by omega) kp (by simpa using hkp)
            omega
      · refine round_ex hrc h3 h4 hdl rfl (by rfl) ?_
        simp [go_sem]
        have hs : IntKind.i64.wrap ((k : Int) + 1) = ((k + 1 : Nat) : Int) := wrapI_succ (by omega)
        have hid : IntKind.u32.wrap ((r.next - r.keys.length + k) % 4294967296 + 1) = (r.next - r.keys.length + ((k + 1 : Nat) : Int)) % 4294967296 := by rw [wrap32]; omega
        refine next_w ⟨k + 1, by omega, ?_⟩ (by simp; omega) (by simp [hι, go_sem]) (by simp [go_sem, hs, hid]) (by simp [go_sem, hkk])
        intro j hj k' hk'
        rcases Nat.lt_or_ge j k with hlt' | hge'
        · exact hall j hlt' k' hk'
        · have : j = k := by omega
          subst this
          rw [hkk] at hk'; cases hk'
          refine ⟨by omega, by rw [wrap32, wrap32]; omega, fun h k2 hk2 => ?_⟩
          rw [hk2] at g3; simpa using g3
    · refine out_exit ?_
      simp [go_sem]
      refine iter_on hrc (.inr rfl) hsz hdf Tryz.results43 rfl ?_
      simp [go_sem]
      refine mark0 (.inl rfl) hι Tryz.results12 rfl ?_
      simp [go_sem]
      refine .of_eq ?_
      congr 1
      symm
      simp only [fit24b, decide_eq_true_eq]
      refine ⟨by omega, by omega, fun i k' hk' => hall i ?_ k' hk'⟩
      have := (List.getElem?_eq_some_iff.1 hk').1; omega
end T1
