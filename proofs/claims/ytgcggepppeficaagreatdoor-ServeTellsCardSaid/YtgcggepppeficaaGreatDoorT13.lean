/- T13: a part of the proof. -/
import Derived.Test.YtgcggepppeficaaGreatDoorT12
set_option linter.all false
set_option linter.unusedVariables false
set_option linter.unnecessarySimpa false
set_option linter.unusedSimpArgs false
set_option linter.unusedSimpArgs false
namespace T1
open Go SX Go.Proofs

/-- A number's two low bytes. -/
def twoB (n : Int) : List UInt8 := [byteOf (n / 256), byteOf n]
@[simp] theorem twoB_length (n : Int) : (twoB n).length = 2 := rfl
theorem wire_two' (n : Int) : ACall Tryz.prog 79 [.int .i64 n] [] (.str (twoB n)) [] := wire_two n
/-- A field as bytes. -/
def encF (f : Fld) : List UInt8 := twoB f.kind ++ twoB ((f.body.length : Int) + 4) ++ f.body
@[simp] theorem encF_length (f : Fld) : (encF f).length = 4 + f.body.length := by simp [encF]; omega
theorem encF_ne (f : Fld) : encF f ≠ [] := by simp [encF, twoB]

/-- Fields as bytes, behind others; whether they were too long; an error's number. -/
def fieldsR : List UInt8 → Bool → List Fld → List UInt8 × Int
  | acc, long, [] => if long then ([], 12) else (acc, 0)
  | acc, long, f :: l => if f.kind < 0 ∨ 65536 ≤ f.kind then ([], 13) else if f.body.length < 12 ∨ f.body.length % 4 ≠ 0 then ([], 10) else
    if long || decide (1232 < acc.length + 4 + f.body.length) then fieldsR acc true l else fieldsR (acc ++ encF f) false l
def wireFields (l : List Fld) : List UInt8 × Int := if 16 < l.length then ([], 18) else fieldsR [] false l

/-- A builder's blocks. -/
@[go_sem] def bldH (n : Nat) (s : List UInt8) : List Blk := if s = [] then [.box 170 [.nilptr, .nilsl]] else [.box 170 [.ptr 0 0, .own n 1 0 s.length], .rows 5 1 1 (bytesA s)]
@[go_sem] def resA2 (r : List UInt8 × Int) : AV := .tup [.str r.1, .int .i64 r.2]

def fldsSmall (l : List Fld) : Prop := ∀ f ∈ l, f.body.length < 10000000000000

theorem and3 {n : Nat} (h : n < 9223372036854775808) : IntKind.i64.wrap (andI .i64 (n : Int) 3) = ((n % 4 : Nat) : Int) := by
  rw [show (3 : Int) = ((3 : Nat) : Int) from rfl, andI_nat (k := .i64) (by simp [IntKind.bits]; omega) (by simp [IntKind.bits])]
  rw [show n &&& 3 = n % 4 from Nat.and_two_pow_sub_one_eq_mod n 2, wrapI_nat (by omega)]

set_option maxRecDepth 100000 in
set_option maxHeartbeats 1000000 in
theorem wire_Fields (l : List Fld) (hs : fldsSmall l) : ACall Tryz.prog 55 [.xs 2 (l.map Fld.av)] [] (resA2 (wireFields l)) [] := by
  refine acall_ex Tryz.func55 (by kernel_rfl) rfl Tryz.ntmps55 (by simp) fun w ok0 ι hι => ?_
  simp [go_sem]
  refine ⟨fun h => ?_, fun h => ?_⟩
  · refine fin0 (.inl rfl) hι Tryz.results55 ?_
    have : wireFields l = ([], 18) := by simp only [wireFields]; rw [if_pos (by omega)]
    simp [go_sem, this]
  refine loop_n (γ := { p : Nat × List UInt8 × Bool // p.1 ≤ l.length ∧ wireFields l = fieldsR p.2.1 p.2.2 (l.drop p.1) ∧ p.2.1.length ≤ 1232 }) (fun g => ⟨[(13, .int .i64 g.1.1), (12, .int .i64 l.length), (11, .xs 2 (l.map Fld.av)), (5, .bool g.1.2.2), (4, .ptr 0 0), (2, .str []), (3, .int .i64 0)], bldH 1 g.1.2.1⟩) (fun g => l.length - g.1.1) ⟨(0, [], false), by simp, by simp [wireFields]; omega, by simp⟩ [0] 0 (by simp [bldH]) (by simp [go_sem]) (by simp [hι]) (by simp) (by simp [go_sem]) (by simp [go_sem]) ?_
  rintro ⟨⟨k, acc, long⟩, hk, hw, ha⟩
  simp only at hk hw ha ⊢
  have hl16 : l.length ≤ 16 := by omega
  have hs' : k < l.length → IntKind.i64.wrap ((k : Int) + 1) = ((k + 1 : Nat) : Int) := fun _ => wrapI_succ (by omega)
  have exit : k = l.length → (if long = true then ([], 12) else (acc, 0)) = wireFields l := fun e => by
    rw [hw, e, List.drop_length, fieldsR]
  by_cases hlt : k < l.length
  · obtain ⟨f, hf⟩ : ∃ f, l[k]? = some f := ⟨_, List.getElem?_eq_getElem hlt⟩
    have hfs := hs f (List.mem_of_getElem? hf)
    have hdrop : l.drop k = f :: l.drop (k + 1) := by
      rw [List.drop_eq_getElem_cons hlt]
      rw [List.getElem?_eq_getElem hlt] at hf; cases hf; rfl
    rw [hdrop, fieldsR] at hw
    have h3 := and3 (n := f.body.length) (by omega)
    by_cases hacc : acc = []
    · subst hacc
      simp [go_sem, hf, h3]
      refine ⟨fun _ => ⟨hlt, fun hk1 => ?_, fun hk1 hk2 => ⟨fun hb => ?_, fun hb1 hb2 => ?_⟩⟩, fun h => absurd hlt (by omega)⟩
      · refine out_ret ?_
        simp [go_sem]
        refine fin0 (.inl rfl) hι Tryz.results55 ?_
        rw [if_pos hk1] at hw
        simp [go_sem, hw]
      · refine out_ret ?_
        simp [go_sem]
        refine fin0 (.inl rfl) hι Tryz.results55 ?_
        rw [if_neg (by omega), if_pos (by omega)] at hw
        simp [go_sem, hw]
      · rw [if_neg (by omega), if_neg (by omega)] at hw
        cases long with
        | true =>
          refine draw_ex [(2, pureR (.int .i64 0))] (by kernel_rfl) fun ops1 okD hok => ?_
          simp [go_sem]
          refine ⟨hok _ (by kernel_rfl), ?_⟩
          simp only [Bool.true_or, if_true] at hw
          refine next_n ⟨(k + 1, [], true), by omega, hw, by simp⟩ (by simp; omega) [0] 0 (by simp [go_sem]) (by simp [go_sem]) (by simp [hι]) (by simp) (by simp [go_sem, hs' hlt]) (by simp [go_sem])
        | false =>
          refine draw_ex [(2, ⟨[0], some [.ptr 0 0], [.box 170 [.nilptr, .nilsl]], .int .i64 0, [.box 170 [.nilptr, .nilsl]]⟩)] (by kernel_rfl) fun ops1 okD hok => ?_
          have hwr : IntKind.i64.wrap (4 + (f.body.length : Int)) = ((4 + f.body.length : Nat) : Int) := by rw [wrapI (by omega)]; omega
          simp [go_sem, Builder_Len0, hwr]
          refine ⟨hok _ (by kernel_rfl), fun hle => ?_, fun hgt => ?_⟩
          · refine draw_new 12 0 [(2, pureR (.str (twoB f.kind))), (7, pureR (.str (twoB ((f.body.length : Int) + 4))))] (by kernel_rfl) (by simp [go_sem, hι]) fun ops1 okD hok => ?_
            have hwr' : IntKind.i64.wrap ((f.body.length : Int) + 4) = (f.body.length : Int) + 4 := wrapI (by omega)
            simp [go_sem, wire_two', hwr']
            refine ⟨by omega, hok _ (by kernel_rfl), (call_at [0] (Builder_Write0 (encF f) (encF_ne f) (by simp; omega)) rfl rfl rfl rfl rfl (by simp) (by simp) (by simp [go_sem, encF]) (by simp [go_sem]) ?_) _⟩
            have hle' := Int.not_lt.2 hle
            simp [go_sem, hle']
            rw [if_neg (by simp; omega)] at hw
            refine next_n ⟨(k + 1, encF f, false), by omega, by simpa using hw, by simp; omega⟩ (by simp; omega) [0, 2] 0 (by simp [go_sem, encF_ne]) (by simp [go_sem]) (by simp [hι]) (by simp) (by simp [go_sem, hs' hlt, encF_ne]) (by simp [go_sem, encF_ne])
          · rw [if_pos (by simp; omega)] at hw
            refine next_n ⟨(k + 1, [], true), by omega, hw, by simp⟩ (by simp; omega) [0] 0 (by simp [go_sem]) (by simp [go_sem]) (by simp [hι]) (by simp) (by simp [go_sem, hs' hlt, hgt]) (by simp [go_sem])
    · simp [go_sem, hf, h3, hacc]
      refine ⟨fun _ => ⟨hlt, fun hk1 => ?_, fun hk1 hk2 => ⟨fun hb => ?_, fun hb1 hb2 => ?_⟩⟩, fun h => absurd hlt (by omega)⟩
      · refine out_ret ?_
        simp [go_sem]
        refine fin0 (.inl rfl) hι Tryz.results55 ?_
        rw [if_pos hk1] at hw
        simp [go_sem, hw]
      · refine out_ret ?_
        simp [go_sem]
        refine fin0 (.inl rfl) hι Tryz.results55 ?_
        rw [if_neg (by omega), if_pos (by omega)] at hw
        simp [go_sem, hw]
      · rw [if_neg (by omega), if_neg (by omega)] at hw
        cases long with
        | true =>
          refine draw_ex [(2, pureR (.int .i64 0))] (by kernel_rfl) fun ops1 okD hok => ?_
          simp [go_sem]
          refine ⟨hok _ (by kernel_rfl), ?_⟩
          simp only [Bool.true_or, if_true] at hw
          refine next_n ⟨(k + 1, acc, true), by omega, hw, ha⟩ (by simp; omega) [0, 1] 0 (by simp [go_sem, hacc]) (by simp [go_sem]) (by simp [hι]) (by simp) (by simp [go_sem, hs' hlt, hacc]) (by simp [go_sem, hacc])
        | false =>
          refine draw_ex [(2, ⟨[0, 1], some [.ptr 0 0], [.box 170 [.ptr 0 0, .own 1 1 0 acc.length], .rows 5 1 1 (bytesA acc)], .int .i64 acc.length, [.box 170 [.ptr 0 0, .own 1 1 0 acc.length], .rows 5 1 1 (bytesA acc)]⟩)] (by kernel_rfl) fun ops1 okD hok => ?_
          have hwr0 : IntKind.i64.wrap ((acc.length : Int) + 4) = (acc.length : Int) + 4 := wrapI (by omega)
          have hwr : IntKind.i64.wrap ((acc.length : Int) + 4 + (f.body.length : Int)) = (acc.length : Int) + 4 + (f.body.length : Int) := wrapI (by omega)
          simp [go_sem, Builder_Len acc, hwr0, hwr]
          refine ⟨hok _ (by kernel_rfl), fun hle => ?_, fun hgt => ?_⟩
          · refine draw_new 12 0 [(2, pureR (.str (twoB f.kind))), (7, pureR (.str (twoB ((f.body.length : Int) + 4))))] (by kernel_rfl) (by simp [go_sem, hι]) fun ops1 okD hok => ?_
            have hwr' : IntKind.i64.wrap ((f.body.length : Int) + 4) = (f.body.length : Int) + 4 := wrapI (by omega)
            simp [go_sem, wire_two', hwr']
            refine ⟨by omega, hok _ (by kernel_rfl), (call_at [0, 1] (Builder_Write acc (encF f) hacc (by simp; omega)) rfl rfl rfl rfl rfl (by simp) (by simp) (by simp [go_sem, encF]) (by simp [go_sem]) ?_) _⟩
            have hle' := Int.not_lt.2 hle
            simp [go_sem, hle', out]
            rw [if_neg (by simp; omega)] at hw
            refine next_n ⟨(k + 1, acc ++ encF f, false), by omega, by simpa using hw, by simp; omega⟩ (by simp; omega) [0, 3] 0 (by simp [go_sem, hacc]) (by simp [go_sem]) (by simp [hι]) (by simp) (by simp [go_sem, hs' hlt, hacc]) (by simp [go_sem, hacc])
          · rw [if_pos (by simp; omega)] at hw
            refine next_n ⟨(k + 1, acc, true), by omega, hw, ha⟩ (by simp; omega) [0, 1] 0 (by simp [go_sem, hacc]) (by simp [go_sem]) (by simp [hι]) (by simp) (by simp [go_sem, hs' hlt, hgt, hacc]) (by simp [go_sem, hacc])
  · have hkl : k = l.length := by omega
    have hex := exit hkl
    subst hkl
    by_cases hacc : acc = []
    · subst hacc
      simp [go_sem]
      refine out_exit ?_
      cases long with
      | true =>
        simp [go_sem]
        refine fin0 (.inl rfl) hι Tryz.results55 ?_
        simp [go_sem, ← hex]
      | false =>
        simp [go_sem]
        refine call_at [0] Builder_String0 rfl rfl rfl rfl rfl (by simp) (by simp) (by simp [go_sem]) (by simp [go_sem]) ?_
        simp [go_sem, out]
        refine fin0 (.inl rfl) hι Tryz.results55 ?_
        simp [go_sem, ← hex]
    · simp [go_sem, hacc]
      refine out_exit ?_
      cases long with
      | true =>
        simp [go_sem]
        refine fin0 (.inl rfl) hι Tryz.results55 ?_
        simp [go_sem, ← hex]
      | false =>
        simp [go_sem]
        refine call_at [0, 1] (Builder_String acc hacc (by omega)) rfl rfl rfl rfl rfl (by simp) (by simp) (by simp [go_sem]) (by simp [go_sem]) ?_
        simp [go_sem, out]
        refine fin0 (.inl rfl) hι Tryz.results55 ?_
        simp [go_sem, ← hex]
end T1
