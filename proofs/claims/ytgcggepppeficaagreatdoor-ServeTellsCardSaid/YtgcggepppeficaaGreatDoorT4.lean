/- T4: a part of the proof. -/
import Derived.Test.YtgcggepppeficaaGreatDoorT3
set_option linter.all false
set_option linter.unusedVariables false
set_option linter.unnecessarySimpa false
set_option linter.unusedSimpArgs false
set_option linter.unusedSimpArgs false
namespace T1
open Go SX Go.Proofs
theorem fe52 : flatEq Tryz.prog 52 = some [.int, .str, .int] := by kernel_rfl
attribute [local go_sem] fe52

theorem key_ne {x y : Rkey} : (¬ (x.id = y.id ∧ x.key = y.key ∧ x.made = y.made)) ↔ x ≠ y := by
  cases x; cases y; simp

set_option maxRecDepth 100000 in
set_option maxHeartbeats 1000000 in
theorem keys_Equal (l l' : List Rkey) (hl : l.length < 9223372036854775808) : ACall Tryz.prog 29 [.xs 3 (l.map Rkey.av), .xs 3 (l'.map Rkey.av)] [] (.bool (decide (l = l'))) [] := by
  refine acall_ex Tryz.func29 (by kernel_rfl) rfl Tryz.ntmps29 (by simp) fun w ok0 ι hι => ?_
  simp [go_sem]
  refine ⟨fun hne => ?_, fun heq => ?_⟩
  · refine fin0 (.inl rfl) hι Tryz.results29 ?_
    have : decide (l = l') = false := by simp only [decide_eq_false_iff_not]; rintro rfl; exact hne rfl
    simp [go_sem, this]
  · refine loop_w (γ := { k : Nat // k ≤ l.length ∧ l.take k = l'.take k }) (fun g => ⟨[(13, .int .i64 g.1), (12, .int .i64 l.length), (1, .xs 3 (l'.map Rkey.av)), (0, .xs 3 (l.map Rkey.av))], []⟩) (fun g => l.length - g.1) ⟨0, by simp, by simp⟩ (by simp [hι]) (by simp [go_sem]) (by simp [go_sem]) ?_
    rintro ⟨k, hk, hall⟩
    simp [go_sem]
    refine ⟨fun hlt => ?_, fun hge => ?_⟩
    · obtain ⟨kk, hkk⟩ : ∃ kk, l[k]? = some kk := ⟨_, List.getElem?_eq_getElem hlt⟩
      obtain ⟨kk', hkk'⟩ : ∃ kk, l'[k]? = some kk := ⟨_, List.getElem?_eq_getElem (by omega)⟩
      refine draw_ex [] (by kernel_rfl) fun ops1 okD hok => ?_
      simp [go_sem, hkk, hkk']
      refine ⟨hlt, by omega, hok _ (by kernel_rfl), fun hbad => ?_, fun g1 g2 g3 => ?_⟩
      · refine out_ret ?_
        simp [go_sem]
        refine fin0 (.inl rfl) hι Tryz.results29 ?_
        have : decide (l = l') = false := by
          simp only [decide_eq_false_iff_not]; rintro rfl
          rw [hkk] at hkk'; cases hkk'
          simp at hbad
        simp [go_sem, this]
      · have hs : IntKind.i64.wrap ((k : Int) + 1) = ((k + 1 : Nat) : Int) := wrapI_succ (by omega)
        refine next_w ⟨k + 1, by omega, ?_⟩ (by simp; omega) (by simp [hι]) (by simp [go_sem, hs]) (by simp [go_sem])
        have e : kk = kk' := by cases kk; cases kk'; simp at g1 g2 g3; simp [g1, g2, g3]
        rw [List.take_add_one, List.take_add_one, hall, hkk, hkk', e]
    · refine out_exit ?_
      simp [go_sem]
      refine fin0 (.inl rfl) hι Tryz.results29 ?_
      have : decide (l = l') = true := by
        simp only [decide_eq_true_eq]
        rw [List.take_of_length_le (by omega), List.take_of_length_le (by omega)] at hall
        exact hall
      simp [go_sem, this]
end T1
