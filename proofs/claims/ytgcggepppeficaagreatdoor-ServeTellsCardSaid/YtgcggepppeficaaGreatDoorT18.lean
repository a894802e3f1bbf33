/- T18: a part of the proof. -/
import Derived.Test.YtgcggepppeficaaGreatDoorT17
set_option linter.all false
set_option linter.unusedVariables false
set_option linter.unnecessarySimpa false
set_option linter.unusedSimpArgs false
set_option linter.unusedSimpArgs false
namespace T1
open Go SX Go.Proofs
attribute [local go_sem] maxLen

theorem val64_2 : ∀ {s : List UInt8}, s.length ≤ 2 → 0 ≤ val64 0 s ∧ val64 0 s < 65536
  | [], _ => by simp [val64]
  | [a], _ => by have := a.toNat_lt; simp only [val64]; omega
  | [a, b], _ => by have := a.toNat_lt; have := b.toNat_lt; simp only [val64]; omega
  | _ :: _ :: _ :: _, h => by simp at h

/-- How long the first field says it is. -/
def len2 (s : List UInt8) : Nat := if 4 ≤ s.length then (val64 0 ((s.take 4).drop 2)).toNat else 0
theorem len2_lt (s : List UInt8) : len2 s < 65536 := by
  unfold len2
  split
  · have := val64_2 (s := (s.take 4).drop 2) (by simp; omega); omega
  · omega
def bad2 (s : List UInt8) : Bool := decide (len2 s < 16) || decide (len2 s % 4 ≠ 0) || decide (s.length < len2 s)
/-- Bytes as fields, behind others. -/
def fieldsOf (s : List UInt8) (acc : List Fld) : List Fld × Int :=
  if hs : s = [] then (acc, 0) else if hb : bad2 s = true then ([], 10) else if acc.length = 16 then ([], 18) else
    fieldsOf (s.drop (len2 s)) (acc ++ [⟨val64 0 (s.take 2), (s.take (len2 s)).drop 4⟩])
termination_by s.length
decreasing_by
  simp only [bad2, Bool.or_eq_true, decide_eq_true_eq] at hb
  have := List.length_pos_iff.2 hs
  simp; omega
def toFields (s : List UInt8) : List Fld × Int := fieldsOf s []

set_option maxRecDepth 100000 in
set_option maxHeartbeats 1000000 in
theorem wire_fields (s : List UInt8) : ACall Tryz.prog 61 [.str s] [] (.func (.func 85) [] [.ptr 0 0]) [.box 9 [.str s]] := by
  refine acall_ex Tryz.func61 (by kernel_rfl) rfl Tryz.ntmps61 (by simp) fun w ok0 ι hι => ?_
  simp [go_sem]
  refine fin_ex 0 [0] (.inl rfl) hι Tryz.results61 ?_
  simp [go_sem]

@[go_sem] def lstA (n : Nat) (acc : List Fld) : AV := if acc = [] then .nilsl else .own n 2 0 acc.length
@[go_sem] def lstH (acc : List Fld) : List Blk := if acc = [] then [] else [.rows 44 2 1 (acc.map Fld.av)]

set_option maxRecDepth 100000 in
set_option maxHeartbeats 4000000 in
theorem wire_ToFields (s0 : List UInt8) (hl : s0.length < 1000000000000) : ACall Tryz.prog 44 [.str s0] [] (.tup [.xs 2 ((toFields s0).1.map Fld.av), .int .i64 (toFields s0).2]) [] := by
  refine acall_ex Tryz.func44 (by kernel_rfl) rfl Tryz.ntmps44 (by simp) fun w ok0 ι hι => ?_
  simp [go_sem]
  refine call_ex [] (wire_fields s0) rfl rfl rfl rfl (by simp [go_sem]) rfl (by simp) (by simp) (by simp) ?_
  simp [go_sem, out]
  refine weak_ex ⟨[(8, .func (.func 85) [] [.ptr 3 0]), (4, .ptr 2 0), (3, .ptr 1 0), (2, .ptr 0 0)], [.box 46 [.nilsl], .box 75 [.int .i64 0], .box 46 [.nilsl], .box 9 [.str s0]]⟩ (by simp [hι]) (by simp [go_sem]) (by simp [go_sem]) ?_
  refine range_ex Tryz.func85 (by kernel_rfl) rfl Tryz.ntmps85 rfl rfl (by simp) fun fid a0 D lb rc hsz hdf hrc => ?_
  simp [go_sem]
  refine loop_n (γ := { p : List UInt8 × List Fld // fieldsOf p.1 p.2 = toFields s0 ∧ p.1.length ≤ s0.length ∧ p.2.length ≤ 16 }) (fun g => ⟨[(0, .func (.yield lb) [] []), (1, .ptr 3 0)],
      [.box 46 [.nilsl], .box 75 [.int .i64 0], .box 46 [lstA 6 g.1.2], .box 9 [.str g.1.1], .obj (.deferred (some [])), .obj (rc .ready none)] ++ lstH g.1.2⟩) (fun g => g.1.1.length) ⟨(s0, []), rfl, by simp, by simp⟩ [0, 1, 2, 3, 4, 5] 6 (by simp [go_sem]) (by simp [go_sem]) (by simp [hι, go_sem]) (by simp) (by simp [go_sem]) (by simp [go_sem]) ?_
  rintro ⟨⟨s, acc⟩, hf, hsl, hal⟩
  simp only at hf hsl hal ⊢
  rw [fieldsOf] at hf
  have hfit : ∀ r : List Fld × Int, toFields s0 = r → SX.Sub (.tup [.xs 2 (r.1.map Fld.av), .int .i64 r.2]) (.tup [.xs 2 ((toFields s0).1.map Fld.av), .int .i64 (toFields s0).2]) := fun r hr => .of_eq (by rw [hr])
  by_cases hs : s = []
  · subst hs
    simp only [dite_true] at hf
    by_cases hacc : acc = []
    · subst hacc
      simp [go_sem]
      refine out_exit ?_
      simp [go_sem]
      refine iter_on hrc (.inr rfl) hsz hdf Tryz.results85 rfl ?_
      simp [go_sem]
      refine mark0 (.inl rfl) hι Tryz.results44 rfl ?_
      simp [go_sem, ← hf]
      exact .tup (.cons (.nil rfl) (.refl _))
    · simp [go_sem, hacc]
      refine out_exit ?_
      simp [go_sem]
      refine iter_on hrc (.inr rfl) hsz hdf Tryz.results85 rfl ?_
      simp [go_sem]
      refine mark0 (.inl rfl) hι Tryz.results44 rfl ?_
      simp [go_sem, ← hf]
      rw [List.take_of_length_le (by simp)]
      exact .refl _
  · simp only [hs, dite_false] at hf
    have hkl := len2_lt s
    have hw16 : IntKind.i64.wrap (andI .i64 ((len2 s : Nat) : Int) 3) = ((len2 s % 4 : Nat) : Int) := and3 (by omega)
    by_cases hacc : acc = []
    · subst hacc
      by_cases h4 : (4 : Int) ≤ s.length
      · have hk : val64 0 ((s.take 4).drop 2) = ((len2 s : Nat) : Int) := by
          unfold len2; rw [if_pos (by omega)]
          have := val64_2 (s := (s.take 4).drop 2) (by simp; omega); omega
        have hkw : IntKind.i64.wrap ((len2 s : Nat) : Int) = ((len2 s : Nat) : Int) := wrapI (by omega)
        simp [go_sem, hs, h4]
        refine call_pure (wire_value _ (by simp; omega)) rfl rfl rfl rfl rfl ?_
        simp [go_sem, hk, hkw, hw16]
        refine ⟨fun hbad => ?_, fun g1 g2 g3 => ?_⟩
        · have hb : bad2 s = true := by
            simp only [bad2, Bool.or_eq_true, decide_eq_true_eq]; omega
          simp only [hb, dite_true] at hf
          refine yield_ex hrc hsz rfl rfl rfl rfl rfl rfl (by simp [go_sem]) fun ac ops' h3 h4 hdl => ?_
          simp [go_sem]
          refine begin_ex hrc rfl ?_
          simp [go_sem]
          refine round_ret hrc h3 h4 hdl rfl (by rfl) ?_
          simp [go_sem]
          refine out_ret ?_
          simp [go_sem]
          refine iter_jump hrc (.inl rfl) hsz hdf Tryz.results85 rfl ?_
          simp [go_sem]
          refine mark0 (.inl rfl) hι Tryz.results44 rfl ?_
          simp [go_sem, ← hf]
          exact .tup (.cons (.nil rfl) (.refl _))
        have hb : ¬ bad2 s = true := by
          simp only [bad2, Bool.or_eq_true, decide_eq_true_eq]; omega
        simp only [hb, dite_false] at hf
        have cv := wire_value (s.take 2) (by simp; omega)
        have hv2 := val64_2 (s := s.take 2) (by simp; omega)
        have hvw : IntKind.i64.wrap (val64 0 (s.take 2)) = val64 0 (s.take 2) := wrapI (by omega)
        refine draw_new 10 1 [(2, pureR (.int .u64 (val64 0 (s.take 2))))] (by kernel_rfl) (by simp [go_sem, hι]) fun ops1 okD hok => ?_
        simp [go_sem, cv, hvw]
        refine ⟨by omega, by omega, hok _ (by kernel_rfl), by omega, ?_⟩
        refine yield_ex hrc hsz rfl rfl rfl rfl rfl rfl (by simp [go_sem]) fun ac ops' h3 h4 hdl => ?_
        simp [go_sem]
        refine begin_ex hrc rfl ?_
        simp [go_sem]
        rw [if_neg (by simp)] at hf
        refine round_ex hrc h3 h4 hdl rfl (by rfl) ?_
        simp [go_sem]
        have hsd : (s.drop (len2 s)).length < s.length := by simp; omega
        refine next_n ⟨(s.drop (len2 s), [] ++ [⟨val64 0 (s.take 2), (s.take (len2 s)).drop 4⟩]), by simpa using hf, by simp only; omega, by simp⟩ (by simpa using hsd) [0, 1, 2, 3, 4, 5, 9] 6 (by simp [go_sem]) (by simp [go_sem]) (by simp [hι, go_sem]) (by simp) (by simp [go_sem]) (by simp [go_sem])
      · have hb : bad2 s = true := by
          have : len2 s = 0 := by unfold len2; rw [if_neg (by omega)]
          simp [bad2, this]
        simp only [hb, dite_true] at hf
        simp [go_sem, hs, h4]
        refine yield_ex hrc hsz rfl rfl rfl rfl rfl rfl (by simp [go_sem]) fun ac ops' h3 h4 hdl => ?_
        simp [go_sem]
        refine begin_ex hrc rfl ?_
        simp [go_sem]
        refine round_ret hrc h3 h4 hdl rfl (by rfl) ?_
        simp [go_sem]
        refine out_ret ?_
        simp [go_sem]
        refine iter_jump hrc (.inl rfl) hsz hdf Tryz.results85 rfl ?_
        simp [go_sem]
        refine mark0 (.inl rfl) hι Tryz.results44 rfl ?_
        simp [go_sem, ← hf]
        exact .tup (.cons (.nil rfl) (.refl _))
    · skip
      by_cases h4 : (4 : Int) ≤ s.length
      · have hk : val64 0 ((s.take 4).drop 2) = ((len2 s : Nat) : Int) := by
          unfold len2; rw [if_pos (by omega)]
          have := val64_2 (s := (s.take 4).drop 2) (by simp; omega); omega
        have hkw : IntKind.i64.wrap ((len2 s : Nat) : Int) = ((len2 s : Nat) : Int) := wrapI (by omega)
        simp [go_sem, hs, h4, hacc]
        refine call_pure (wire_value _ (by simp; omega)) rfl rfl rfl rfl rfl ?_
        simp [go_sem, hk, hkw, hw16]
        refine ⟨fun hbad => ?_, fun g1 g2 g3 => ?_⟩
        · have hb : bad2 s = true := by
            simp only [bad2, Bool.or_eq_true, decide_eq_true_eq]; omega
          simp only [hb, dite_true] at hf
          refine yield_ex hrc hsz rfl rfl rfl rfl rfl rfl (by simp [go_sem]) fun ac ops' h3 h4 hdl => ?_
          simp [go_sem]
          refine begin_ex hrc rfl ?_
          simp [go_sem]
          refine round_ret hrc h3 h4 hdl rfl (by rfl) ?_
          simp [go_sem]
          refine out_ret ?_
          simp [go_sem]
          refine iter_jump hrc (.inl rfl) hsz hdf Tryz.results85 rfl ?_
          simp [go_sem]
          refine mark0 (.inl rfl) hι Tryz.results44 rfl ?_
          simp [go_sem, ← hf]
          exact .tup (.cons (.nil rfl) (.refl _))
        have hb : ¬ bad2 s = true := by
          simp only [bad2, Bool.or_eq_true, decide_eq_true_eq]; omega
        simp only [hb, dite_false] at hf
        have cv := wire_value (s.take 2) (by simp; omega)
        have hv2 := val64_2 (s := s.take 2) (by simp; omega)
        have hvw : IntKind.i64.wrap (val64 0 (s.take 2)) = val64 0 (s.take 2) := wrapI (by omega)
        refine draw_new 10 1 [(2, pureR (.int .u64 (val64 0 (s.take 2))))] (by kernel_rfl) (by simp [go_sem, hι]) fun ops1 okD hok => ?_
        simp [go_sem, cv, hvw]
        refine ⟨by omega, by omega, hok _ (by kernel_rfl), by omega, ?_⟩
        refine yield_ex hrc hsz rfl rfl rfl rfl rfl rfl (by simp [go_sem]) fun ac ops' h3 h4 hdl => ?_
        simp [go_sem]
        refine begin_ex hrc rfl ?_
        simp [go_sem]
        refine ⟨fun hm => ?_, fun hm => ?_⟩
        · rw [if_pos (by omega)] at hf
          refine round_ret hrc h3 h4 hdl rfl (by rfl) ?_
          simp [go_sem]
          refine out_ret ?_
          simp [go_sem]
          refine iter_jump hrc (.inl rfl) hsz hdf Tryz.results85 rfl ?_
          simp [go_sem]
          refine mark0 (.inl rfl) hι Tryz.results44 rfl ?_
          simp [go_sem, ← hf]
          exact .tup (.cons (.nil rfl) (.refl _))
        · rw [if_neg (by omega)] at hf
          refine ⟨by omega, ?_⟩
          refine round_ex hrc h3 h4 hdl rfl (by rfl) ?_
          simp [go_sem]
          have hsd : (s.drop (len2 s)).length < s.length := by simp; omega
          refine next_n ⟨(s.drop (len2 s), acc ++ [⟨val64 0 (s.take 2), (s.take (len2 s)).drop 4⟩]), by simpa using hf, by simp only; omega, by simp; omega⟩ (by simpa using hsd) [0, 1, 2, 3, 4, 5, 10] 6 (by simp [go_sem]) (by simp [go_sem]) (by simp [hι, go_sem]) (by simp) (by simp [go_sem]) (by simp [go_sem, hacc])
      · have hb : bad2 s = true := by
          have : len2 s = 0 := by unfold len2; rw [if_neg (by omega)]
          simp [bad2, this]
        simp only [hb, dite_true] at hf
        simp [go_sem, hs, h4, hacc]
        refine yield_ex hrc hsz rfl rfl rfl rfl rfl rfl (by simp [go_sem]) fun ac ops' h3 h4 hdl => ?_
        simp [go_sem]
        refine begin_ex hrc rfl ?_
        simp [go_sem]
        refine round_ret hrc h3 h4 hdl rfl (by rfl) ?_
        simp [go_sem]
        refine out_ret ?_
        simp [go_sem]
        refine iter_jump hrc (.inl rfl) hsz hdf Tryz.results85 rfl ?_
        simp [go_sem]
        refine mark0 (.inl rfl) hι Tryz.results44 rfl ?_
        simp [go_sem, ← hf]
        exact .tup (.cons (.nil rfl) (.refl _))
end T1
