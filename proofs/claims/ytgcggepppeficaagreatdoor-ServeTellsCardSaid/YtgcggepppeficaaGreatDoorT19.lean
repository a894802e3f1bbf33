/- T19: a part of the proof. -/
import Derived.Test.YtgcggepppeficaaGreatDoorT18
set_option linter.all false
set_option linter.unusedVariables false
set_option linter.unnecessarySimpa false
set_option linter.unusedSimpArgs false
set_option linter.unusedSimpArgs false
namespace T1
open Go SX Go.Proofs
attribute [local go_sem] maxLen

/-- Bytes as a number, the first the highest. -/
def natG (v : Nat) : List UInt8 → Nat
  | [] => v
  | b :: s => natG (v * 256 + b.toNat) s
def natB (s : List UInt8) : Nat := natG 0 s
theorem natG_lt : ∀ (s : List UInt8) (v k : Nat), v < 256 ^ k → natG v s < 256 ^ (k + s.length)
  | [], v, k, h => h
  | b :: s, v, k, h => by
    have hb := b.toNat_lt
    have := natG_lt s (v * 256 + b.toNat) (k + 1) (by rw [Nat.pow_succ]; omega)
    simpa [natG, Nat.add_assoc, Nat.add_comm 1] using this
theorem natB_lt {s : List UInt8} {k : Nat} (h : s.length ≤ k) : natB s < 256 ^ k :=
  Nat.lt_of_lt_of_le (natG_lt s 0 0 (by simp)) (Nat.pow_le_pow_right (by omega) (by omega))
theorem val64_nat : ∀ (s : List UInt8) (v k : Nat), v < 256 ^ k → k + s.length ≤ 8 → val64 v s = natG v s
  | [], v, k, _, _ => rfl
  | b :: s, v, k, h, hk => by
    have hb := b.toNat_lt
    simp only [List.length_cons] at hk
    have h8 : 256 ^ (k + 1) ≤ 256 ^ 8 := Nat.pow_le_pow_right (by omega) (by omega)
    have h9 : v * 256 + b.toNat < 256 ^ (k + 1) := by rw [Nat.pow_succ]; omega
    have e : ((v : Int) * 256 + b.toNat) % 18446744073709551616 = ((v * 256 + b.toNat : Nat) : Int) := by
      have : (256 : Nat) ^ 8 = 18446744073709551616 := by simp
      omega
    simp only [val64, natG, e]
    exact val64_nat s _ (k + 1) h9 (by omega)
theorem val64_natB {s : List UInt8} (h : s.length ≤ 8) : val64 0 s = (natB s : Int) := val64_nat s 0 0 (by simp) (by omega)

def Pkt.zero : Pkt := ⟨0, 0, 0, 0, 0, 0, 0, 0, 0, 0, 0, 0, 0, []⟩
def cut (s : List UInt8) (i j : Nat) : List UInt8 := (s.take j).drop i
def sgn (b : UInt8) : Int := IntKind.i8.wrap (b.toNat : Int)
def readP (s : List UInt8) (f : List Fld) : Pkt :=
  ⟨((s.getD 0 0).toNat / 64 : Nat), ((s.getD 0 0).toNat / 8 % 8 : Nat), ((s.getD 0 0).toNat % 8 : Nat), (s.getD 1 0).toNat, sgn (s.getD 2 0), sgn (s.getD 3 0), natB (cut s 4 8), natB (cut s 8 12), natB (cut s 12 16), natB (cut s 16 24), natB (cut s 24 32), natB (cut s 32 40), natB (cut s 40 48), f⟩
def wireRead (s : List UInt8) : Pkt × Int :=
  if s.length < 48 then (.zero, 11) else if 1280 < s.length then (.zero, 12) else
  if (toFields (s.drop 48)).2 ≠ 0 then (.zero, (toFields (s.drop 48)).2) else (readP s (toFields (s.drop 48)).1, 0)
@[go_sem] def resP (r : Pkt × Int) : AV := .tup [.agg r.1.av, .int .i64 r.2]

/-- The packet's cells where g of its numbers are read. -/
@[go_sem] def rcells (s : List UInt8) (f : List Fld) (g : Nat) : List AV :=
  [.int .i64 (readP s f).leap, .int .i64 (readP s f).version, .int .i64 (readP s f).mode, .int .i64 (readP s f).stratum, .int .i64 (readP s f).poll, .int .i64 (readP s f).precision,
    .int .u32 (if 0 < g then (readP s f).rootDelay else 0 : Nat), .int .u32 (if 1 < g then (readP s f).rootDisp else 0 : Nat), .int .u32 (if 2 < g then (readP s f).refId else 0 : Nat),
    .int .u64 (if 3 < g then (readP s f).ref else 0 : Nat), .int .u64 (if 4 < g then (readP s f).orig else 0 : Nat), .int .u64 (if 5 < g then (readP s f).recv else 0 : Nat), .int .u64 (if 6 < g then (readP s f).xmit else 0 : Nat), .xs 2 (f.map Fld.av)]
theorem sub_zero (e : Int) : SX.Sub (.tup [.agg [.int .i64 0, .int .i64 0, .int .i64 0, .int .i64 0, .int .i64 0, .int .i64 0, .int .u32 0, .int .u32 0, .int .u32 0, .int .u64 0, .int .u64 0, .int .u64 0, .int .u64 0, .nilsl], .int .i64 e]) (.tup [.agg Pkt.zero.av, .int .i64 e]) := by
  refine .tup (.cons (.agg ?_) (.refl _))
  repeat (first | exact SubL.nil | refine .cons (by first | exact .refl _ | exact .nil rfl) ?_)
theorem shr6 (b : UInt8) : IntKind.i64.wrap ((b.toNat : Int).fdiv 64) = ((b.toNat / 64 : Nat) : Int) := by
  have := b.toNat_lt
  rw [Int.fdiv_eq_ediv_of_nonneg _ (by omega), wrapI (by omega)]; omega
theorem and7 {n : Nat} (h : n < 256) : IntKind.i64.wrap (IntKind.u8.wrap (andI .u8 (n : Int) 7)) = ((n % 8 : Nat) : Int) := by
  rw [show (7 : Int) = ((7 : Nat) : Int) from rfl, andI_nat (k := .u8) (by simp [IntKind.bits]; omega) (by simp [IntKind.bits])]
  rw [show n &&& 7 = n % 8 from Nat.and_two_pow_sub_one_eq_mod n 3, wrap8' (by omega) (by omega), wrapI_nat (by omega)]
theorem shr3 (b : UInt8) : IntKind.i64.wrap (IntKind.u8.wrap (andI .u8 ((b.toNat : Int).fdiv 8) 7)) = ((b.toNat / 8 % 8 : Nat) : Int) := by
  have := b.toNat_lt
  rw [Int.fdiv_eq_ediv_of_nonneg _ (by omega), show (b.toNat : Int) / 8 = ((b.toNat / 8 : Nat) : Int) by omega, and7 (by omega)]
set_option maxRecDepth 100000 in
theorem sgn8 (b : UInt8) : IntKind.i64.wrap (IntKind.i8.wrap (b.toNat : Int)) = sgn b := by
  have := b.toNat_lt
  unfold sgn
  refine wrapI ?_
  have : ∀ n < 256, -9223372036854775808 ≤ IntKind.i8.wrap ((n : Nat) : Int) ∧ IntKind.i8.wrap ((n : Nat) : Int) < 9223372036854775808 := by decide
  exact this _ (by omega)

set_option maxRecDepth 100000 in
set_option maxHeartbeats 4000000 in
theorem wire_Read (s : List UInt8) : ACall Tryz.prog 33 [.str s] [] (resP (wireRead s)) [] := by
  refine acall_ex Tryz.func33 (by kernel_rfl) rfl Tryz.ntmps33 (by simp) fun w ok0 ι hι => ?_
  simp [go_sem]
  refine ⟨fun h => ?_, fun h => ⟨fun h' => ?_, fun h' => ?_⟩⟩
  · refine fin0 (.inl rfl) hι Tryz.results33 ?_
    have : wireRead s = (.zero, 11) := by simp only [wireRead]; rw [if_pos (by omega)]
    rw [this]
    simp only [resP]
    simp [go_sem]
    exact sub_zero 11
  · refine fin0 (.inl rfl) hι Tryz.results33 ?_
    have : wireRead s = (.zero, 12) := by simp only [wireRead]; rw [if_neg (by omega), if_pos (by omega)]
    rw [this]
    simp only [resP]
    simp [go_sem]
    exact sub_zero 12
  refine ⟨by omega, ?_⟩
  refine call_pure (wire_ToFields (s.drop 48) (by simp; omega)) rfl rfl rfl rfl rfl ?_
  obtain ⟨f, e, hfe⟩ : ∃ f e, toFields (s.drop 48) = (f, e) := ⟨_, _, rfl⟩
  simp [go_sem, hfe]
  refine ⟨fun he => ?_, fun he => ?_⟩
  · refine fin0 (.inl rfl) hι Tryz.results33 ?_
    have : wireRead s = (.zero, e) := by simp only [wireRead]; rw [if_neg (by omega), if_neg (by omega), if_pos (by simpa [hfe] using he), hfe]
    rw [this]
    simp only [resP]
    simp [go_sem]
    exact sub_zero e
  subst he
  obtain ⟨b0, hb0⟩ : ∃ b, s[0]? = some b := ⟨_, List.getElem?_eq_getElem (by omega)⟩
  obtain ⟨b1, hb1⟩ : ∃ b, s[1]? = some b := ⟨_, List.getElem?_eq_getElem (by omega)⟩
  obtain ⟨b2, hb2⟩ : ∃ b, s[2]? = some b := ⟨_, List.getElem?_eq_getElem (by omega)⟩
  obtain ⟨b3, hb3⟩ : ∃ b, s[3]? = some b := ⟨_, List.getElem?_eq_getElem (by omega)⟩
  have e1 : IntKind.i64.wrap (b1.toNat : Int) = b1.toNat := wrapI_nat (by have := b1.toNat_lt; omega)
  have r0 : (readP s f).leap = ((b0.toNat / 64 : Nat) : Int) := by simp [readP, List.getD, hb0]
  have r1 : (readP s f).version = ((b0.toNat / 8 % 8 : Nat) : Int) := by simp [readP, List.getD, hb0]
  have r2 : (readP s f).mode = ((b0.toNat % 8 : Nat) : Int) := by simp [readP, List.getD, hb0]
  have r3 : (readP s f).stratum = (b1.toNat : Int) := by simp [readP, List.getD, hb1]
  have r4 : (readP s f).poll = sgn b2 := by simp [readP, List.getD, hb2]
  have r5 : (readP s f).precision = sgn b3 := by simp [readP, List.getD, hb3]
  refine draw_new 28 1 [] (by kernel_rfl) (by simp [go_sem, hι]) fun ops1 okD hok => ?_
  have s7 := and7 (n := b0.toNat) (by have := b0.toNat_lt; omega)
  simp [go_sem, hb0, hb1, hb2, hb3, shr6, shr3, s7, sgn8, e1]
  refine ⟨by omega, by omega, by omega, by omega, hok _ (by kernel_rfl), ?_⟩
  have q0 : (readP s f).rootDelay = natB (cut s 4 8) := rfl
  have v0 : val64 0 ((s.take 8).drop 4) = (natB (cut s 4 8) : Int) := val64_natB (by simp; omega)
  have u0 := natB_lt (s := cut s 4 8) (k := 4) (by simp [cut]; omega)
  have w0 : IntKind.u32.wrap (natB (cut s 4 8) : Int) = (natB (cut s 4 8) : Int) := wrap32' (by omega) (by simp at u0; omega)
  have q1 : (readP s f).rootDisp = natB (cut s 8 12) := rfl
  have v1 : val64 0 ((s.take 12).drop 8) = (natB (cut s 8 12) : Int) := val64_natB (by simp; omega)
  have u1 := natB_lt (s := cut s 8 12) (k := 4) (by simp [cut]; omega)
  have w1 : IntKind.u32.wrap (natB (cut s 8 12) : Int) = (natB (cut s 8 12) : Int) := wrap32' (by omega) (by simp at u1; omega)
  have q2 : (readP s f).refId = natB (cut s 12 16) := rfl
  have v2 : val64 0 ((s.take 16).drop 12) = (natB (cut s 12 16) : Int) := val64_natB (by simp; omega)
  have u2 := natB_lt (s := cut s 12 16) (k := 4) (by simp [cut]; omega)
  have w2 : IntKind.u32.wrap (natB (cut s 12 16) : Int) = (natB (cut s 12 16) : Int) := wrap32' (by omega) (by simp at u2; omega)
  have q3 : (readP s f).ref = natB (cut s 16 24) := rfl
  have v3 : val64 0 ((s.take 24).drop 16) = (natB (cut s 16 24) : Int) := val64_natB (by simp; omega)
  have u3 := natB_lt (s := cut s 16 24) (k := 8) (by simp [cut]; omega)
  have w3 : IntKind.u64.wrap (natB (cut s 16 24) : Int) = (natB (cut s 16 24) : Int) := wrap64' (by omega) (by simp at u3; omega)
  have q4 : (readP s f).orig = natB (cut s 24 32) := rfl
  have v4 : val64 0 ((s.take 32).drop 24) = (natB (cut s 24 32) : Int) := val64_natB (by simp; omega)
  have u4 := natB_lt (s := cut s 24 32) (k := 8) (by simp [cut]; omega)
  have w4 : IntKind.u64.wrap (natB (cut s 24 32) : Int) = (natB (cut s 24 32) : Int) := wrap64' (by omega) (by simp at u4; omega)
  have q5 : (readP s f).recv = natB (cut s 32 40) := rfl
  have v5 : val64 0 ((s.take 40).drop 32) = (natB (cut s 32 40) : Int) := val64_natB (by simp; omega)
  have u5 := natB_lt (s := cut s 32 40) (k := 8) (by simp [cut]; omega)
  have w5 : IntKind.u64.wrap (natB (cut s 32 40) : Int) = (natB (cut s 32 40) : Int) := wrap64' (by omega) (by simp at u5; omega)
  have q6 : (readP s f).xmit = natB (cut s 40 48) := rfl
  have v6 : val64 0 ((s.take 48).drop 40) = (natB (cut s 40 48) : Int) := val64_natB (by simp; omega)
  have u6 := natB_lt (s := cut s 40 48) (k := 8) (by simp [cut]; omega)
  have w6 : IntKind.u64.wrap (natB (cut s 40 48) : Int) = (natB (cut s 40 48) : Int) := wrap64' (by omega) (by simp at u6; omega)
  refine loop_w (γ := { g : Nat // g ≤ 3 }) (fun g => ⟨[(61, .int .i64 g.1), (60, .agg [.ptr 1 6, .ptr 1 7, .ptr 1 8]), (6, .ptr 1 0), (2, .ptr 0 0), (0, .str s)], [.box 48 [.int .i64 0, .int .i64 0, .int .i64 0, .int .i64 0, .int .i64 0, .int .i64 0, .int .u32 0, .int .u32 0, .int .u32 0, .int .u64 0, .int .u64 0, .int .u64 0, .int .u64 0, .nilsl], .box 48 (rcells s f (g.1))]⟩) (fun g => 3 - g.1) ⟨0, by simp⟩ (by simp [hι]) (by simp [go_sem]) (by simp [go_sem, r0, r1, r2, r3, r4, r5, q0, q1, q2]) ?_
  rintro ⟨g, hg⟩
  have hg' : g = 0 ∨ g = 1 ∨ g = 2 ∨ g = 3 := by omega
  rcases hg' with rfl | rfl | rfl | rfl
  · simp [go_sem]
    refine ⟨by omega, ?_⟩
    refine call_pure (wire_value ((s.take 8).drop 4) (by simp; omega)) rfl rfl rfl rfl rfl ?_
    simp [go_sem, v0, w0]
    refine next_w ⟨1, by omega⟩ (by simp) (by simp [hι]) (by simp [go_sem]) (by simp [go_sem, q0, q1, q2, q3, q4, q5, q6])
  · simp [go_sem]
    refine ⟨by omega, ?_⟩
    refine call_pure (wire_value ((s.take 12).drop 8) (by simp; omega)) rfl rfl rfl rfl rfl ?_
    simp [go_sem, v1, w1]
    refine next_w ⟨2, by omega⟩ (by simp) (by simp [hι]) (by simp [go_sem]) (by simp [go_sem, q0, q1, q2, q3, q4, q5, q6])
  · simp [go_sem]
    refine ⟨by omega, ?_⟩
    refine call_pure (wire_value ((s.take 16).drop 12) (by simp; omega)) rfl rfl rfl rfl rfl ?_
    simp [go_sem, v2, w2]
    refine next_w ⟨3, by omega⟩ (by simp) (by simp [hι]) (by simp [go_sem]) (by simp [go_sem, q0, q1, q2, q3, q4, q5, q6])
  simp [go_sem]
  refine out_exit ?_
  simp [go_sem]
  refine loop_w (γ := { g : Nat // g ≤ 4 }) (fun g => ⟨[(83, .int .i64 g.1), (82, .agg [.ptr 1 9, .ptr 1 10, .ptr 1 11, .ptr 1 12]), (6, .ptr 1 0), (2, .ptr 0 0), (0, .str s)], [.box 48 [.int .i64 0, .int .i64 0, .int .i64 0, .int .i64 0, .int .i64 0, .int .i64 0, .int .u32 0, .int .u32 0, .int .u32 0, .int .u64 0, .int .u64 0, .int .u64 0, .int .u64 0, .nilsl], .box 48 (rcells s f (3 + g.1))]⟩) (fun g => 4 - g.1) ⟨0, by simp⟩ (by simp [hι]) (by simp [go_sem]) (by simp [go_sem, r0, r1, r2, r3, r4, r5, q0, q1, q2]) ?_
  rintro ⟨g, hg⟩
  have hg' : g = 0 ∨ g = 1 ∨ g = 2 ∨ g = 3 ∨ g = 4 := by omega
  rcases hg' with rfl | rfl | rfl | rfl | rfl
  · simp [go_sem]
    refine ⟨by omega, ?_⟩
    refine call_pure (wire_value ((s.take 24).drop 16) (by simp; omega)) rfl rfl rfl rfl rfl ?_
    simp [go_sem, v3, w3]
    refine next_w ⟨1, by omega⟩ (by simp) (by simp [hι]) (by simp [go_sem]) (by simp [go_sem, q0, q1, q2, q3, q4, q5, q6])
  · simp [go_sem]
    refine ⟨by omega, ?_⟩
    refine call_pure (wire_value ((s.take 32).drop 24) (by simp; omega)) rfl rfl rfl rfl rfl ?_
    simp [go_sem, v4, w4]
    refine next_w ⟨2, by omega⟩ (by simp) (by simp [hι]) (by simp [go_sem]) (by simp [go_sem, q0, q1, q2, q3, q4, q5, q6])
  · simp [go_sem]
    refine ⟨by omega, ?_⟩
    refine call_pure (wire_value ((s.take 40).drop 32) (by simp; omega)) rfl rfl rfl rfl rfl ?_
    simp [go_sem, v5, w5]
    refine next_w ⟨3, by omega⟩ (by simp) (by simp [hι]) (by simp [go_sem]) (by simp [go_sem, q0, q1, q2, q3, q4, q5, q6])
  · simp [go_sem]
    refine ⟨by omega, ?_⟩
    refine call_pure (wire_value ((s.take 48).drop 40) (by simp; omega)) rfl rfl rfl rfl rfl ?_
    simp [go_sem, v6, w6]
    refine next_w ⟨4, by omega⟩ (by simp) (by simp [hι]) (by simp [go_sem]) (by simp [go_sem, q0, q1, q2, q3, q4, q5, q6])
  simp [go_sem]
  refine out_exit ?_
  simp [go_sem]
  refine fin0 (.inl rfl) hι Tryz.results33 ?_
  have : wireRead s = (readP s f, 0) := by simp only [wireRead]; rw [if_neg (by omega), if_neg (by omega), if_neg (by simp [hfe]), hfe]
  rw [this]
  simp only [resP]
  simp [go_sem, q0, q1, q2, q3, q4, q5, q6]
  exact .refl _
end T1
