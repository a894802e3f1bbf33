/- T16: a part of the proof. -/
import Derived.Test.YtgcggepppeficaaGreatDoorT15
set_option linter.all false
set_option linter.unusedVariables false
set_option linter.unnecessarySimpa false
set_option linter.unusedSimpArgs false
set_option linter.unusedSimpArgs false
namespace T1
open Go SX Go.Proofs
attribute [local go_sem] maxLen u8_byte

/-- The document's fields, behind others; how many bytes, at most one too many. -/
theorem twoB_be (n : Int) (h : 0 ≤ n) (h' : n < 65536) : beB 2 n.toNat = twoB n := by
  simp only [beB, twoB, byteOf, List.nil_append, List.cons_append]
  congr 2
  · congr 1; omega
  · congr 1
    congr 1; omega

set_option maxRecDepth 100000 in
set_option maxHeartbeats 1000000 in
theorem ref21_Fields (l : List Fld) (hs : fldsSmall l) : ACall Tryz.prog 26 [.xs 2 (l.map Fld.av)] [] (resA2 (wireFields l)) [] := by
  refine acall_ex Tryz.func26 (by kernel_rfl) rfl Tryz.ntmps26 (by simp) fun w ok0 ι hι => ?_
  simp [go_sem]
  refine ⟨fun h => ?_, fun h => ?_⟩
  · refine fin0 (.inl rfl) hι Tryz.results26 ?_
    have : wireFields l = ([], 18) := by simp only [wireFields]; rw [if_pos (by omega)]
    simp [go_sem, this]
  refine loop_w (γ := { p : Nat × List UInt8 × Nat // p.1 ≤ l.length ∧ p.2.2 ≤ 1233 ∧ (p.2.2 ≤ 1232 → p.2.2 = p.2.1.length) ∧ p.2.1.length ≤ 1232 ∧ wireFields l = fieldsR p.2.1 (decide (1232 < p.2.2)) (l.drop p.1) }) (fun g => ⟨[(6, .int .i64 g.1.1), (0, .xs 2 (l.map Fld.av)), (5, .int .i64 g.1.2.2), (4, .str g.1.2.1), (2, .str []), (3, .int .i64 0)], []⟩) (fun g => l.length - g.1.1) ⟨(0, [], 0), by simp, by simp, by simp, by simp, by simp [wireFields]; omega⟩ (by simp [hι]) (by simp [go_sem]) (by simp [go_sem]) ?_
  rintro ⟨⟨k, acc, n⟩, hk, hn, hacc, ha, hw⟩
  simp only at hk hn hacc ha hw ⊢
  have hl16 : l.length ≤ 16 := by omega
  have hs' : k < l.length → IntKind.i64.wrap ((k : Int) + 1) = ((k + 1 : Nat) : Int) := fun _ => wrapI_succ (by omega)
  by_cases hlt : k < l.length
  · obtain ⟨f, hf⟩ : ∃ f, l[k]? = some f := ⟨_, List.getElem?_eq_getElem hlt⟩
    have hfs := hs f (List.mem_of_getElem? hf)
    have hdrop : l.drop k = f :: l.drop (k + 1) := by
      rw [List.drop_eq_getElem_cons hlt]
      rw [List.getElem?_eq_getElem hlt] at hf; cases hf; rfl
    rw [hdrop, fieldsR] at hw
    have hm : (f.body.length : Int).tmod 4 = ((f.body.length % 4 : Nat) : Int) := by rw [Int.tmod_eq_emod_of_nonneg (by omega)]; omega
    have e1 : IntKind.i64.wrap ((n : Int) + 4) = (n : Int) + 4 := wrapI (by omega)
    have e2 : IntKind.i64.wrap ((n : Int) + 4 + f.body.length) = ((n + 4 + f.body.length : Nat) : Int) := by rw [wrapI (by omega)]; omega
    have e2' : IntKind.i64.wrap ((n : Int) + 4 + f.body.length) = (n : Int) + 4 + f.body.length := wrapI (by omega)
    simp [go_sem, hf, hm, e1, e2']
    refine ⟨fun _ => ⟨hlt, fun hk1 => ?_, fun hk1 hk2 => ⟨fun hb => ?_, fun hb1 hb2 => ⟨fun hle => ?_, fun hgt => ?_⟩⟩⟩, fun h => absurd hlt (by omega)⟩
    · refine out_ret ?_
      simp [go_sem]
      refine fin0 (.inl rfl) hι Tryz.results26 ?_
      rw [if_pos (by omega)] at hw
      simp [go_sem, hw]
    · refine out_ret ?_
      simp [go_sem]
      refine fin0 (.inl rfl) hι Tryz.results26 ?_
      rw [if_neg (by omega), if_pos (by omega)] at hw
      simp [go_sem, hw]
    · rw [if_neg (by omega), if_neg (by omega)] at hw
      have hn' : n = acc.length := hacc (by omega)
      subst hn'
      rw [if_neg (by simp; omega)] at hw
      have c1 : ACall Tryz.prog 27 [.int .u64 f.kind, .int .i64 2] [] (.str (twoB f.kind)) [] := by
        have := ref21_number f.kind.toNat 2 (by omega) (by omega)
        rw [twoB_be f.kind hk1 (by omega), Int.toNat_of_nonneg hk1] at this; exact this
      have c2 : ACall Tryz.prog 27 [.int .u64 ((f.body.length : Int) + 4), .int .i64 2] [] (.str (twoB ((f.body.length : Int) + 4))) [] := by
        have := ref21_number ((f.body.length : Int) + 4).toNat 2 (by omega) (by omega)
        rw [twoB_be _ (by omega) (by omega), Int.toNat_of_nonneg (by omega)] at this; exact this
      have w1 : IntKind.u64.wrap f.kind = f.kind := wrap64' hk1 (by omega)
      have w2 : IntKind.i64.wrap ((f.body.length : Int) + 4) = (f.body.length : Int) + 4 := wrapI (by omega)
      have w3 : IntKind.u64.wrap ((f.body.length : Int) + 4) = (f.body.length : Int) + 4 := wrap64' (by omega) (by omega)
      refine draw_ex [(4, pureR (.str (twoB f.kind))), (11, pureR (.str (twoB ((f.body.length : Int) + 4))))] (by kernel_rfl) fun ops1 okD hok => ?_
      simp [go_sem, c1, c2, w1, w2, w3]
      refine ⟨by omega, by omega, by omega, hok _ (by kernel_rfl), ?_⟩
      have hmin : min ((acc.length : Int) + 4 + f.body.length) 1233 = ((acc.length + 4 + f.body.length : Nat) : Int) := by omega
      refine next_w ⟨(k + 1, acc ++ encF f, acc.length + 4 + f.body.length), by omega, by simp only; omega, by simp; omega, by simp; omega, ?_⟩ (by simp; omega) (by simp [hι]) (by simp [go_sem, hs' hlt, hmin, encF]) (by simp [go_sem])
      rw [hw]
      congr 1
      symm; simp; omega
    · rw [if_neg (by omega), if_neg (by omega)] at hw
      have hmin : min ((n : Int) + 4 + f.body.length) 1233 = ((1233 : Nat) : Int) := by omega
      refine next_w ⟨(k + 1, acc, 1233), by omega, by simp, by simp, ha, ?_⟩ (by simp; omega) (by simp [hι]) (by simp [go_sem, hs' hlt, hmin]) (by simp [go_sem])
      rw [hw, if_pos]
      · rfl
      · simp only [Bool.or_eq_true, decide_eq_true_eq]
        rcases Nat.lt_or_ge 1232 n with h1 | h1
        · exact .inl h1
        · right; have := hacc h1; omega
  · have hkl : k = l.length := by omega
    subst hkl
    rw [List.drop_length, fieldsR] at hw
    simp [go_sem]
    refine out_exit ?_
    simp [go_sem]
    refine ⟨fun h1 => ?_, fun h1 => ?_⟩
    · refine fin0 (.inl rfl) hι Tryz.results26 ?_
      rw [if_pos (by simp; omega)] at hw
      simp [go_sem, hw]
    · refine fin0 (.inl rfl) hι Tryz.results26 ?_
      rw [if_neg (by simp; omega)] at hw
      simp [go_sem, hw]
end T1
