/- T2: a part of the proof. -/
import Derived.Test.YtgcggepppeficaaGreatDoorT1
import Derived.Test.YtgcggepppeficaaGreatDoorSxRange
set_option linter.all false
set_option linter.unusedVariables false
set_option linter.unnecessarySimpa false
set_option linter.unusedSimpArgs false
set_option linter.unusedSimpArgs false
namespace T1
open Go SX Go.Proofs

def keyOk (r : Ring) (i : Nat) : Prop := ∀ k, r.keys[i]? = some k → k.key.length = 32 ∧ k.id = IntKind.u32.wrap (r.next - IntKind.u32.wrap (r.keys.length - i)) ∧ (0 < i → ∀ k', r.keys[i - 1]? = some k' → k'.made ≤ k.made)
def fit24 (r : Ring) : Prop := 1 ≤ r.keys.length ∧ r.keys.length ≤ 8 ∧ ∀ i, keyOk r i
open Classical in
noncomputable def fit24b (r : Ring) : Bool := decide (fit24 r)

set_option maxRecDepth 100000 in
set_option maxHeartbeats 1000000 in
theorem ref_Fit (r : Ring) : ACall Tryz.prog 13 [r.av] [] (.bool (fit24b r)) [] := by
  refine acall_ex Tryz.func13 (by kernel_rfl) rfl Tryz.ntmps13 (by simp) fun w ok0 ι hι => ?_
  simp [go_sem]
  refine ⟨fun h => ?_, fun h1 h2 => ?_⟩
  · refine fin0 (.inl rfl) hι Tryz.results13 ?_
    have : fit24b r = false := by simp only [fit24b, decide_eq_false_iff_not]; rintro ⟨a, b, _⟩; omega
    simp [go_sem, this]
  · refine loop_w (γ := { k : Nat // k ≤ r.keys.length ∧ ∀ j, j < k → keyOk r j }) (fun g => ⟨[(1, .ptr 0 0), (2, .bool false), (3, .int .i64 r.keys.length), (4, .int .i64 g.1)], [.box 25 r.cs]⟩) (fun g => r.keys.length - g.1) ⟨0, by simp, by simp⟩ (by simp [hι]) (by simp [go_sem]) (by simp [go_sem]) ?_
    rintro ⟨k, hk, hall⟩
    simp [go_sem]
    have hL : r.keys.length < 9223372036854775808 := by omega
    refine ⟨fun hlt => ?_, fun hge => ?_⟩
    · obtain ⟨kk, hkk⟩ : ∃ kk, r.keys[k]? = some kk := ⟨_, List.getElem?_eq_getElem hlt⟩
      have hw : IntKind.i64.wrap ((r.keys.length : Int) - k) = (r.keys.length : Int) - k := wrapI (by omega)
      have hs : IntKind.i64.wrap ((k : Int) + 1) = ((k + 1 : Nat) : Int) := wrapI_succ (by omega)
      obtain rfl | ⟨m, rfl⟩ : k = 0 ∨ ∃ m, k = m + 1 := by cases k; exact .inl rfl; exact .inr ⟨_, rfl⟩
      · simp [go_sem, hkk]
        refine ⟨hlt, ?_⟩
        refine draw_ex [] (by kernel_rfl) fun ops1 okD hok => ?_
        simp [go_sem, hkk, hL]
        refine ⟨hok _ (by kernel_rfl), fun hbad => ?_, fun g1 g2 => ?_⟩
        · refine out_ret ?_
          simp [go_sem]
          refine fin0 (.inl rfl) hι Tryz.results13 ?_
          have : fit24b r = false := by
            simp only [fit24b, decide_eq_false_iff_not]; rintro ⟨a, b, c⟩
            have := c 0 kk hkk
            simp only [Int.natCast_zero, Int.sub_zero] at this
            omega
          simp [go_sem, this]
        · refine next_w ⟨1, by omega, ?_⟩ (by simp; omega) (by simp [hι]) (by simp [go_sem]) (by simp [go_sem])
          intro j hj k' hk'
          have : j = 0 := by omega
          subst this
          rw [hkk] at hk'; cases hk'
          exact ⟨by omega, by simpa using g2, fun h => by omega⟩
      · simp [go_sem, hkk]
        refine ⟨hlt, ?_⟩
        refine draw_ex [] (by kernel_rfl) fun ops1 okD hok => ?_
        obtain ⟨kp, hkp⟩ : ∃ kp, r.keys[m]? = some kp := ⟨_, List.getElem?_eq_getElem (by omega)⟩
        have e1 : m < 9223372036854775808 := by omega
        have e2 : m < r.keys.length := by omega
        simp only [Int.natCast_add, Int.natCast_one] at hw hs
        simp [go_sem, hkk, hkp, hL, e1, hw]
        refine ⟨fun _ _ => e2, hok _ (by kernel_rfl), fun hbad => ?_, fun g1 g2 g3 => ?_⟩
        · refine out_ret ?_
          simp [go_sem]
          refine fin0 (.inl rfl) hι Tryz.results13 ?_
          have : fit24b r = false := by
            simp only [fit24b, decide_eq_false_iff_not]; rintro ⟨a, b, c⟩
            have := c (m + 1) kk hkk
            simp only [Nat.add_sub_cancel, hkp] at this
            have h5 := this.2.2 (by omega) kp rfl
            have h6 := this.2.1
            simp only [Int.natCast_add, Int.natCast_one] at h6
            rcases hbad with (h7 | h7) | h7
            · omega
            · exact h7 h6
            · omega
          simp [go_sem, this]
        · refine next_w ⟨m + 2, by omega, ?_⟩ (by simp; omega) (by simp [hι]) (by simp [go_sem, hs]; exact .of_eq (by congr 1)) (by simp [go_sem])
          intro j hj k' hk'
          rcases Nat.lt_or_ge j (m + 1) with hlt' | hge'
          · exact hall j hlt' k' hk'
          · have : j = m + 1 := by omega
            subst this
            rw [hkk] at hk'; cases hk'
            refine ⟨by omega, by simpa using g2, fun h k2 hk2 => ?_⟩
            simp only [Nat.add_sub_cancel, hkp] at hk2
            cases hk2; omega
    · refine out_exit ?_
      simp [go_sem]
      refine fin0 (.inl rfl) hι Tryz.results13 ?_
      have : fit24b r = true := by
        simp only [fit24b, decide_eq_true_eq]
        refine ⟨by omega, by omega, fun i k' hk' => hall i ?_ k' hk'⟩
        have := (List.getElem?_eq_some_iff.1 hk').1; omega
      simp [go_sem, this]
end T1
