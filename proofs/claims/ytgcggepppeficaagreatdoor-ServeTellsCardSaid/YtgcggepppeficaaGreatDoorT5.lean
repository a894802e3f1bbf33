/- T5: a part of the proof. -/
import Derived.Test.YtgcggepppeficaaGreatDoorT4
set_option linter.all false
set_option linter.unusedVariables false
set_option linter.unnecessarySimpa false
set_option linter.unusedSimpArgs false
set_option linter.unusedSimpArgs false
namespace T1
open Go SX Go.Proofs
attribute [local go_sem] fe52

structure Ntsd where
  ring : Ring
  stratum : Int
  precision : Int
  refId : Int
  rootDelay : Int
  rootDisp : Int
  served : Int
  naks : Int
  drops : Int
  deriving DecidableEq
@[go_sem] def Ntsd.cs (x : Ntsd) : List AV := x.ring.cs ++ [.int .i64 x.stratum, .int .i64 x.precision, .int .u32 x.refId, .int .u32 x.rootDelay, .int .u32 x.rootDisp, .int .u64 x.served, .int .u64 x.naks, .int .u64 x.drops]
@[go_sem] def Ntsd.av (x : Ntsd) : AV := .agg x.cs

set_option maxRecDepth 100000 in
set_option maxHeartbeats 1000000 in
theorem ring_Same (r s : Ring) (hl : r.keys.length < 9223372036854775808) : ACall Tryz.prog 14 [r.av, s.av] [] (.bool (decide (r = s))) [] := by
  refine acall_ex Tryz.func14 (by kernel_rfl) rfl Tryz.ntmps14 (by simp) fun w ok0 ι hι => ?_
  simp [go_sem]
  refine call_gd rfl rfl rfl rfl rfl (fun _ => keys_Equal r.keys s.keys hl) rfl (by simp [go_sem]) ?_
  simp [go_sem]
  refine fin0 (.inl rfl) hι Tryz.results14 ?_
  simp [go_sem]
  refine .of_eq ?_
  congr 1
  rw [Bool.eq_iff_iff]
  cases r; cases s; simp [and_comm]

set_option maxRecDepth 100000 in
set_option maxHeartbeats 1000000 in
theorem ref_ring_Same (r s : Ring) (hl : r.keys.length < 9223372036854775808) : ACall Tryz.prog 15 [r.av, s.av] [] (.bool (decide (r = s))) [] := by
  refine acall_ex Tryz.func15 (by kernel_rfl) rfl Tryz.ntmps15 (by simp) fun w ok0 ι hι => ?_
  simp [go_sem]
  refine ⟨fun hne => ?_, fun h1 h2 => ?_⟩
  · refine fin0 (.inl rfl) hι Tryz.results15 ?_
    have : decide (r = s) = false := by simp only [decide_eq_false_iff_not]; rintro rfl; simp at hne
    simp [go_sem, this]
  · refine loop_w (γ := { k : Nat // k ≤ r.keys.length ∧ r.keys.take k = s.keys.take k }) (fun g => ⟨[(5, .int .i64 g.1), (2, .ptr 0 0), (3, .ptr 1 0)], [.box 25 r.cs, .box 25 s.cs]⟩) (fun g => r.keys.length - g.1) ⟨0, by simp, by simp⟩ (by simp [hι]) (by simp [go_sem]) (by simp [go_sem]) ?_
    rintro ⟨k, hk, hall⟩
    simp [go_sem]
    refine ⟨fun hlt => ?_, fun hge => ?_⟩
    · obtain ⟨kk, hkk⟩ : ∃ kk, r.keys[k]? = some kk := ⟨_, List.getElem?_eq_getElem hlt⟩
      obtain ⟨kk', hkk'⟩ : ∃ kk, s.keys[k]? = some kk := ⟨_, List.getElem?_eq_getElem (by omega)⟩
      refine draw_ex [] (by kernel_rfl) fun ops1 okD hok => ?_
      simp [go_sem, hkk, hkk']
      refine ⟨hlt, by omega, hok _ (by kernel_rfl), fun hbad => ?_, fun g1 g2 g3 => ?_⟩
      · refine out_ret ?_
        simp [go_sem]
        refine fin0 (.inl rfl) hι Tryz.results15 ?_
        have : decide (r = s) = false := by
          simp only [decide_eq_false_iff_not]; rintro rfl
          rw [hkk] at hkk'; cases hkk'
          simp at hbad
        simp [go_sem, this]
      · have hs : IntKind.i64.wrap ((k : Int) + 1) = ((k + 1 : Nat) : Int) := wrapI_succ (by omega)
        refine next_w ⟨k + 1, by omega, ?_⟩ (by simp; omega) (by simp [hι]) (by simp [go_sem, hs]) (by simp [go_sem])
        have e : kk = kk' := by cases kk; cases kk'; simp at g1 g2 g3; simp [g1, g2, g3]
        rw [List.take_add_one, List.take_add_one, hall, hkk, hkk', e]
    · refine out_exit ?_
      simp [go_sem]
      refine fin0 (.inl rfl) hι Tryz.results15 ?_
      have : decide (r = s) = true := by
        simp only [decide_eq_true_eq]
        rw [List.take_of_length_le (by omega), List.take_of_length_le (by omega)] at hall
        cases r; cases s; simp at h1 hall; simp [h1, hall]
      simp [go_sem, this]

def Ntsd.fitB (x : Ntsd) : Prop := 1 ≤ x.stratum ∧ x.stratum ≤ 15 ∧ -128 ≤ x.precision ∧ x.precision ≤ 127
instance (x : Ntsd) : Decidable x.fitB := by unfold Ntsd.fitB; infer_instance
noncomputable def Ntsd.fit (x : Ntsd) : Bool := fit24b x.ring && decide x.fitB

set_option maxRecDepth 100000 in
set_option maxHeartbeats 1000000 in
theorem serve_Fit (x : Ntsd) : ACall Tryz.prog 5 [x.av] [] (.bool x.fit) [] := by
  refine acall_ex Tryz.func5 (by kernel_rfl) rfl Tryz.ntmps5 (by simp) fun w ok0 ι hι => ?_
  simp [go_sem]
  refine call_pure (ring_Fit x.ring) rfl rfl rfl rfl rfl ?_
  simp [go_sem]
  refine fin0 (.inl rfl) hι Tryz.results5 ?_
  simp [go_sem]
  refine .of_eq ?_
  congr 1
  rw [Bool.eq_iff_iff]
  cases hf : fit24b x.ring <;> simp [Ntsd.fit, hf]
  unfold Ntsd.fitB
  omega

set_option maxRecDepth 100000 in
set_option maxHeartbeats 1000000 in
theorem ref_Fit26 (x : Ntsd) : ACall Tryz.prog 6 [x.av] [] (.bool x.fit) [] := by
  refine acall_ex Tryz.func6 (by kernel_rfl) rfl Tryz.ntmps6 (by simp) fun w ok0 ι hι => ?_
  simp [go_sem]
  refine call_pure (ref_Fit x.ring) rfl rfl rfl rfl rfl ?_
  simp [go_sem]
  refine fin0 (.inl rfl) hι Tryz.results6 ?_
  simp [go_sem]
  refine .of_eq ?_
  congr 1
  rw [Bool.eq_iff_iff]
  cases hf : fit24b x.ring <;> simp [Ntsd.fit, hf]
  unfold Ntsd.fitB
  omega

set_option maxRecDepth 100000 in
set_option maxHeartbeats 1000000 in
theorem serve_Same (x y : Ntsd) (hl : x.ring.keys.length < 9223372036854775808) : ACall Tryz.prog 7 [x.av, y.av] [] (.bool (decide (x = y))) [] := by
  refine acall_ex Tryz.func7 (by kernel_rfl) rfl Tryz.ntmps7 (by simp) fun w ok0 ι hι => ?_
  simp [go_sem]
  refine call_pure (ring_Same x.ring y.ring hl) rfl rfl rfl rfl rfl ?_
  simp [go_sem]
  refine fin0 (.inl rfl) hι Tryz.results7 ?_
  simp [go_sem]
  refine .of_eq ?_
  congr 1
  rw [Bool.eq_iff_iff]
  cases x; cases y; simp [and_assoc]

set_option maxRecDepth 100000 in
set_option maxHeartbeats 1000000 in
theorem ref_Same26 (x y : Ntsd) (hl : x.ring.keys.length < 9223372036854775808) : ACall Tryz.prog 8 [x.av, y.av] [] (.bool (decide (x = y))) [] := by
  refine acall_ex Tryz.func8 (by kernel_rfl) rfl Tryz.ntmps8 (by simp) fun w ok0 ι hι => ?_
  simp [go_sem]
  refine call_pure (ref_ring_Same x.ring y.ring hl) rfl rfl rfl rfl rfl ?_
  simp [go_sem]
  refine fin0 (.inl rfl) hι Tryz.results8 ?_
  simp [go_sem]
  refine .of_eq ?_
  congr 1
  rw [Bool.eq_iff_iff]
  cases x; cases y; simp [and_assoc]
end T1
