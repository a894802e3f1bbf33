/- T23: a part of the proof. -/
import Derived.Test.YtgcggepppeficaaGreatDoorT22
import Derived.Test.YtgcggepppeficaaGreatDoorT6
import Derived.Test.YtgcggepppeficaaGreatDoorSxPub
set_option linter.all false
set_option linter.unusedVariables false
set_option linter.unnecessarySimpa false
set_option linter.unusedSimpArgs false
set_option linter.unusedSimpArgs false
namespace T1
open Go SX Go.Proofs
attribute [local go_sem] maxLen

def zb (n : Nat) : List UInt8 := List.replicate n 0
theorem rep_zb (n : Nat) : List.replicate n [AV.int .u8 0] = bytesA (zb n) := rep_bytesA n
theorem zb_len : (zb 104).length = 104 := by decide
attribute [local go_sem high] rep_zb
def kk (n : Nat) : List UInt8 := List.replicate n 107
theorem kk_succ (n : Nat) : kk (n + 1) = kk n ++ [107] := List.replicate_succ'
def key32 : List UInt8 := kk 32
def z104 : List UInt8 := zb 104
def fa : Fld := ⟨260, key32⟩
def fb : Fld := ⟨516, z104⟩
def P0 : Pkt := ⟨0, 4, 3, 0, 0, 0, 0, 0, 0, 0, 0, 0, 0, [fa, fb]⟩
def s0 : List UInt8 := P0.headB ++ (encF fa ++ encF fb)
set_option maxRecDepth 100000 in
theorem write0 : wireWrite P0 = (s0, 0) := by decide
set_option maxRecDepth 100000 in
theorem toF2 : fieldsOf (encF fb) [fa] = ([fa, fb], 0) := by
  rw [fieldsOf, dif_neg (by decide), dif_neg (by decide), if_neg (by decide)]
  rw [show (encF fb).drop (len2 (encF fb)) = [] by decide, fieldsOf, dif_pos rfl]
  decide
set_option maxRecDepth 100000 in
theorem toF : toFields (s0.drop 48) = ([fa, fb], 0) := by
  rw [show s0.drop 48 = encF fa ++ encF fb by decide, toFields, fieldsOf, dif_neg (by decide), dif_neg (by decide), if_neg (by decide)]
  rw [show (encF fa ++ encF fb).drop (len2 (encF fa ++ encF fb)) = encF fb by decide]
  rw [← toF2]
  have : ([] : List Fld) ++ [⟨val64 0 ((encF fa ++ encF fb).take 2), ((encF fa ++ encF fb).take (len2 (encF fa ++ encF fb))).drop 4⟩] = [fa] := by decide
  rw [this]
def p0 : Pkt := readP s0 [fa, fb]
set_option maxRecDepth 100000 in
theorem read0 : wireRead s0 = (p0, 0) := by
  simp only [wireRead]
  rw [if_neg (by decide), if_neg (by decide), toF, if_neg (by decide)]; rfl
def k0 : Asked := ⟨p0, key32, z104, 1⟩
set_option maxRecDepth 100000 in
theorem sread0 : serveRead s0 = (k0, 0) := by
  simp only [serveRead, read0]
  rw [if_neg (by decide), if_neg (by decide), if_neg (by decide), if_neg (by decide), if_neg (by decide)]
  rfl
theorem sreadn : (serveRead []).2 ≠ 0 := by simp [serveRead, wireRead]
set_option maxRecDepth 100000 in
theorem nak84 : (wireWrite (nakP k0)).1.length = 84 := by decide

def r0 : Ring := ⟨[⟨1, kk 32, 0⟩], 2⟩
def x0 : Ntsd := ⟨r0, 1, 0, 0, 0, 0, 0, 0, 0⟩

set_option maxRecDepth 100000 in
set_option maxHeartbeats 4000000 in
theorem awake26 : ACall Tryz.prog 4 [] [] (.bool true) [] := by
  refine acall_ex Tryz.func4 (by kernel_rfl) rfl Tryz.ntmps4 (by simp) fun w ok0 ι hι => ?_
  simp [go_sem]
  refine loop_w (γ := { k : Nat // k ≤ 32 }) (fun g => ⟨[(13, .int .i64 g.1), (1, .str (kk g.1))], []⟩) (fun g => 32 - g.1) ⟨0, by simp⟩ (by simp [hι]) (by simp [go_sem, kk]) (by simp [go_sem]) ?_
  rintro ⟨k, hk⟩
  have hkk : (kk k).length = k := by simp [kk]
  simp [go_sem, hkk]
  refine ⟨fun hlt => ?_, fun hge => ?_⟩
  · have hs : IntKind.i64.wrap ((k : Int) + 1) = ((k + 1 : Nat) : Int) := wrapI_succ (by omega)
    refine ⟨by omega, ?_⟩
    refine next_w ⟨k + 1, by omega⟩ (by simp; omega) (by simp [hι]) ?_ (by simp [go_sem])
    simp [go_sem, hs, kk_succ]
  have : k = 32 := by omega
  subst this
  refine out_exit ?_
  simp [go_sem]
  refine call_pure (ref24_New (kk 32) 0 (by simp [kk])) rfl rfl rfl rfl rfl ?_
  simp [go_sem]
  refine call_pure (Handle_drop x0 [] 1 2 sreadn) rfl rfl rfl rfl rfl ?_
  simp [go_sem, x0, r0]
  have htk : (zb 104).take 104 = zb 104 := by decide
  simp [go_sem, htk]
  refine ⟨by decide, ?_⟩
  have hP : P0.Ok := ⟨by decide, by decide, by decide, by decide, by decide, by decide, by decide, by unfold fldsSmall; decide⟩
  refine pub_op 6 rfl (by simp [hι]) (by simp [hι, go_sem]) (by simp [go_sem]) (by simp [go_sem]) ?_
  simp [go_sem]
  refine call_pure (ref21_Write P0 hP) rfl rfl rfl rfl rfl ?_
  simp [go_sem, write0]
  have hcook : k0.cookie = 0 :: 0 :: 0 :: 0 :: List.replicate 100 0 := by decide
  have hcl : 20 ≤ k0.cookie.length := by decide
  have hkl : x0.ring.keys.length < 1000000000000 := by decide
  have hkn : keyAt (id4 0 0 0 0) 0 x0.ring.keys < 0 := by decide
  have hxm : k0.p.xmit < 2 ^ 64 := by decide
  have hul : k0.unique.length < 10000000000000 := by decide
  refine call_pure (Handle_nak x0 s0 1 2 k0 sread0 0 0 0 0 (List.replicate 100 0) hcook hcl hkl hkn hxm hul) rfl rfl rfl rfl rfl ?_
  simp [go_sem, x0, r0, nak84]
  refine fin0 (.inl rfl) hι Tryz.results4 ?_
  simp [go_sem]

theorem ServeTells_law (x y : Ntsd) : ACall Tryz.prog 3 [x.av, y.av] [] (.bool true) [] := law awake26 x y
#print axioms ServeTells_law
end T1
