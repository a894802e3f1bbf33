/- T17: a part of the proof. -/
import Derived.Test.YtgcggepppeficaaGreatDoorT16
set_option linter.all false
set_option linter.unusedVariables false
set_option linter.unnecessarySimpa false
set_option linter.unusedSimpArgs false
set_option linter.unusedSimpArgs false
namespace T1
open Go SX Go.Proofs
attribute [local go_sem] maxLen u8_byte

set_option maxRecDepth 100000 in
set_option maxHeartbeats 1000000 in
theorem ref21_within (n a b : Int) : ACall Tryz.prog 25 [.int .i64 n, .int .i64 a, .int .i64 b] [] (.bool (decide (a ≤ n) && decide (n ≤ b))) [] := by
  refine acall_ex Tryz.func25 (by kernel_rfl) rfl Tryz.ntmps25 (by simp) fun w ok0 ι hι => ?_
  simp [go_sem]
  refine fin0 (.inl rfl) hι Tryz.results25 ?_
  simp [go_sem]

set_option maxRecDepth 100000 in
set_option maxHeartbeats 1000000 in
theorem ref21_Write (p : Pkt) (hp : p.Ok) : ACall Tryz.prog 11 [.agg p.av] [] (resA2 (wireWrite p)) [] := by
  refine acall_ex Tryz.func11 (by kernel_rfl) rfl Tryz.ntmps11 (by simp) fun w ok0 ι hι => ?_
  simp [go_sem]
  refine call_pure (ref21_within _ _ _) rfl rfl rfl rfl rfl ?_
  simp [go_sem]
  refine call_gd rfl rfl rfl rfl rfl (fun _ => ref21_within _ _ _) rfl (by simp [go_sem]) ?_
  simp [go_sem]
  refine call_gd rfl rfl rfl rfl rfl (fun _ => ref21_within _ _ _) rfl (by simp [go_sem]) ?_
  simp [go_sem]
  refine call_gd rfl rfl rfl rfl rfl (fun _ => ref21_within _ _ _) rfl (by simp [go_sem]) ?_
  simp [go_sem]
  refine call_gd rfl rfl rfl rfl rfl (fun _ => ref21_within _ _ _) rfl (by simp [go_sem]) ?_
  simp [go_sem]
  refine call_gd rfl rfl rfl rfl rfl (fun _ => ref21_within _ _ _) rfl (by simp [go_sem]) ?_
  simp [go_sem]
  refine ⟨fun hbad => ?_, fun a1 a2 a3 a4 a5 a6 a7 a8 a9 a10 a11 a12 => ?_⟩
  · have hh : p.head = false := by
      cases he : p.head with
      | false => rfl
      | true => simp only [Pkt.head, Bool.and_eq_true, decide_eq_true_eq] at he; omega
    refine fin0 (.inl rfl) hι Tryz.results11 ?_
    simp [go_sem, wireWrite, hh]
  have hh : p.head = true := by simp only [Pkt.head, Bool.and_eq_true, decide_eq_true_eq]; omega
  refine call_pure (ref21_Fields p.fields hp.hf) rfl rfl rfl rfl rfl ?_
  have hfl := wireFields_le p.fields
  obtain ⟨f, e, hfe⟩ : ∃ f e, wireFields p.fields = (f, e) := ⟨_, _, rfl⟩
  rw [hfe] at hfl; simp only at hfl
  have q1 : IntKind.i64.wrap (p.leap * 64) = p.leap * 64 := wrapI (by omega)
  have q2 : IntKind.i64.wrap (p.version * 8) = p.version * 8 := wrapI (by omega)
  have q3 : IntKind.i64.wrap (p.leap * 64 + p.version * 8) = p.leap * 64 + p.version * 8 := wrapI (by omega)
  have q4 : IntKind.i64.wrap (p.leap * 64 + p.version * 8 + p.mode) = p.leap * 64 + p.version * 8 + p.mode := wrapI (by omega)
  simp [go_sem, hfe]
  refine ⟨fun he => ?_, fun he => ?_⟩
  · refine fin0 (.inl rfl) hι Tryz.results11 ?_
    simp [go_sem, wireWrite, hh, hfe, he]
  subst he
  have b4 : bytesA p.h4 = [[.int .u8 ((byteOf (p.leap * 64 + p.version * 8 + p.mode)).toNat : Int)], [.int .u8 ((byteOf p.stratum).toNat : Int)], [.int .u8 ((byteOf p.poll).toNat : Int)], [.int .u8 ((byteOf p.precision).toNat : Int)]] := rfl
  simp [go_sem, q1, q2, q3, q4, ← b4]
  refine weak_ex ⟨[(6, .str p.h4), (4, .str f), (1, .ptr 0 0)], [.box 48 p.av]⟩ (by simp [hι]) (by simp [go_sem]) (by simp [go_sem]) ?_
  have h6 := hp.h6
  have h7 := hp.h7
  have h8 := hp.h8
  have l4 : p.h4.length = 4 := rfl
  have c6 := ref21_number p.rootDelay 4 (by omega) (by omega)
  have c7 := ref21_number p.rootDisp 4 (by omega) (by omega)
  have c8 := ref21_number p.refId 4 (by omega) (by omega)
  have c9 := ref21_number p.ref 8 (by omega) hp.h9
  have c10 := ref21_number p.orig 8 (by omega) hp.h10
  have c11 := ref21_number p.recv 8 (by omega) hp.h11
  have c12 := ref21_number p.xmit 8 (by omega) hp.h12
  simp at c6 c7 c8 c9 c10 c11 c12
  have w6 : IntKind.u64.wrap (p.rootDelay : Int) = p.rootDelay := wrap64' (by omega) (by omega)
  have w7 : IntKind.u64.wrap (p.rootDisp : Int) = p.rootDisp := wrap64' (by omega) (by omega)
  have w8 : IntKind.u64.wrap (p.refId : Int) = p.refId := wrap64' (by omega) (by omega)
  refine draw_ex [(4, pureR (.str (beB 4 p.rootDelay))), (9, pureR (.str (beB 4 p.rootDisp))), (14, pureR (.str (beB 4 p.refId)))] (by kernel_rfl) fun ops1 okD hok => ?_
  simp [go_sem, c6, c7, c8, w6, w7, w8, l4]
  refine ⟨hok _ (by kernel_rfl), ?_⟩
  refine draw_ex [(3, pureR (.str (beB 8 p.ref))), (7, pureR (.str (beB 8 p.orig))), (11, pureR (.str (beB 8 p.recv))), (15, pureR (.str (beB 8 p.xmit)))] (by kernel_rfl) fun ops1 okD hok => ?_
  simp [go_sem, c9, c10, c11, c12, l4]
  refine ⟨by omega, hok _ (by kernel_rfl), ?_⟩
  refine fin0 (.inl rfl) hι Tryz.results11 ?_
  simp [go_sem, wireWrite, hh, hfe, Pkt.headB, beL, Pkt.n3, Pkt.n4]
end T1
