/- T11: a part of the proof. -/
import Derived.Test.YtgcggepppeficaaGreatDoorT10
set_option linter.all false
set_option linter.unusedVariables false
set_option linter.unnecessarySimpa false
set_option linter.unusedSimpArgs false
set_option linter.unusedSimpArgs false
namespace T1
open Go SX Go.Proofs

/-- Bytes as a number, the first the highest, of 64 bits. -/
def val64 (v : Int) : List UInt8 → Int
  | [] => v
  | b :: s => val64 ((v * 256 + b.toNat) % 18446744073709551616) s
theorem val64_snoc (b : UInt8) : ∀ (s : List UInt8) (v : Int), val64 v (s ++ [b]) = (val64 v s * 256 + b.toNat) % 18446744073709551616
  | [], v => rfl
  | a :: s, v => by simp only [List.cons_append, val64, val64_snoc b s]

theorem or_byte (v : Int) (b : UInt8) : IntKind.u64.wrap (orI .u64 (IntKind.u64.wrap (v * 256)) (b.toNat : Int)) = (v * 256 + b.toNat) % 18446744073709551616 := by
  have hb := b.toNat_lt
  obtain ⟨m, hm⟩ : ∃ m : Nat, IntKind.u64.wrap (v * 256) = ((m <<< 8 : Nat) : Int) ∧ m < 2 ^ 56 := by
    refine ⟨(v % 72057594037927936).toNat, ?_, by omega⟩
    rw [wrap64u, Nat.shiftLeft_eq]
    omega
  obtain ⟨hm, hlt⟩ := hm
  rw [hm, orI_nat (k := .u64) (by rw [Nat.shiftLeft_eq]; simp [IntKind.bits]; omega) (by simp [IntKind.bits]; omega), ← Nat.shiftLeft_add_eq_or_of_lt (by omega), wrap64u]
  rw [wrap64u] at hm
  rw [Nat.shiftLeft_eq] at hm ⊢
  omega

set_option maxRecDepth 100000 in
set_option maxHeartbeats 1000000 in
theorem wire_value (s : List UInt8) (hl : s.length < 9000000000000000000) : ACall Tryz.prog 45 [.str s] [] (.int .u64 (val64 0 s)) [] := by
  refine acall_ex Tryz.func45 (by kernel_rfl) rfl Tryz.ntmps45 (by simp) fun w ok0 ι hι => ?_
  simp [go_sem]
  refine loop_w (γ := { k : Nat // k ≤ s.length }) (fun g => ⟨[(7, .int .i64 g.1), (6, .int .i64 s.length), (0, .str s), (3, .int .u64 (val64 0 (s.take g.1)))], []⟩) (fun g => s.length - g.1) ⟨0, by simp⟩ (by simp [hι]) (by simp [go_sem, val64]) (by simp [go_sem]) ?_
  rintro ⟨k, hk⟩
  simp [go_sem]
  refine ⟨fun hlt => ?_, fun hge => ?_⟩
  · obtain ⟨c, hc⟩ : ∃ c, s[k]? = some c := ⟨_, List.getElem?_eq_getElem hlt⟩
    have hs : IntKind.i64.wrap ((k : Int) + 1) = ((k + 1 : Nat) : Int) := wrapI_succ (by omega)
    simp [go_sem, hc]
    refine ⟨hlt, ?_⟩
    have hb : IntKind.u64.wrap (c.toNat : Int) = c.toNat := wrap64' (by omega) (by have := c.toNat_lt; omega)
    have htk : s.take (k + 1) = s.take k ++ [c] := by rw [List.take_add_one, hc]; rfl
    refine next_w ⟨k + 1, by omega⟩ (by simp; omega) (by simp [hι]) ?_ (by simp [go_sem])
    simp only [htk, val64_snoc]
    simp [go_sem, hs, hb]
    refine .of_eq ?_
    congr 1
    exact or_byte _ _
  · refine out_exit ?_
    simp [go_sem]
    refine fin0 (.inl rfl) hι Tryz.results45 ?_
    simp [go_sem]
    refine .of_eq ?_
    rw [List.take_of_length_le (by omega)]
end T1
