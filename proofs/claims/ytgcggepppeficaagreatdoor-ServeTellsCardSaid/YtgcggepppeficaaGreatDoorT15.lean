/- T15: a part of the proof. -/
import Derived.Test.YtgcggepppeficaaGreatDoorT14
set_option linter.all false
set_option linter.unusedVariables false
set_option linter.unnecessarySimpa false
set_option linter.unusedSimpArgs false
set_option linter.unusedSimpArgs false
namespace T1
open Go SX Go.Proofs

structure Pkt where
  leap : Int
  version : Int
  mode : Int
  stratum : Int
  poll : Int
  precision : Int
  rootDelay : Nat
  rootDisp : Nat
  refId : Nat
  ref : Nat
  orig : Nat
  recv : Nat
  xmit : Nat
  fields : List Fld
  deriving DecidableEq
@[go_sem] def Pkt.av (p : Pkt) : List AV := [.int .i64 p.leap, .int .i64 p.version, .int .i64 p.mode, .int .i64 p.stratum, .int .i64 p.poll, .int .i64 p.precision, .int .u32 p.rootDelay, .int .u32 p.rootDisp, .int .u32 p.refId,
  .int .u64 p.ref, .int .u64 p.orig, .int .u64 p.recv, .int .u64 p.xmit, .xs 2 (p.fields.map Fld.av)]
/-- Numbers that fit, and few bytes. -/
structure Pkt.Ok (p : Pkt) : Prop where
  h6 : p.rootDelay < 2 ^ 32
  h7 : p.rootDisp < 2 ^ 32
  h8 : p.refId < 2 ^ 32
  h9 : p.ref < 2 ^ 64
  h10 : p.orig < 2 ^ 64
  h11 : p.recv < 2 ^ 64
  h12 : p.xmit < 2 ^ 64
  hf : fldsSmall p.fields
def Pkt.head (p : Pkt) : Bool := (decide (0 ≤ p.leap) && decide (p.leap ≤ 3)) && (decide (0 ≤ p.version) && decide (p.version ≤ 7)) && (decide (0 ≤ p.mode) && decide (p.mode ≤ 7)) && (decide (0 ≤ p.stratum) && decide (p.stratum ≤ 255)) &&
  (decide (-128 ≤ p.poll) && decide (p.poll ≤ 127)) && (decide (-128 ≤ p.precision) && decide (p.precision ≤ 127))
attribute [local go_sem] maxLen u8_byte
def Pkt.h4 (p : Pkt) : List UInt8 := [byteOf (p.leap * 64 + p.version * 8 + p.mode), byteOf p.stratum, byteOf p.poll, byteOf p.precision]
def Pkt.n3 (p : Pkt) : List Nat := [p.rootDelay, p.rootDisp, p.refId]
def Pkt.n4 (p : Pkt) : List Nat := [p.ref, p.orig, p.recv, p.xmit]
def beL (k : Nat) (ns : List Nat) : List UInt8 := (ns.map (beB k)).flatten
def Pkt.headB (p : Pkt) : List UInt8 := p.h4 ++ beL 4 p.n3 ++ beL 8 p.n4
def wireWrite (p : Pkt) : List UInt8 × Int := if p.head = false then ([], 13) else if (wireFields p.fields).2 ≠ 0 then ([], (wireFields p.fields).2) else (p.headB ++ (wireFields p.fields).1, 0)

theorem layB_end (P t : List UInt8) (m : Nat) (h : t.length ≤ m) : layB (P ++ List.replicate m 0) t P.length t.length = (P ++ t) ++ List.replicate (m - t.length) 0 := by
  simp [layB, List.drop_append]

theorem head_take_drop (cs : List AV) (g : Nat) : (List.take 1 (List.drop g cs)).head? = cs[g]? := by rw [List.head?_take]; simp
@[go_sem] theorem scL_ints (m : Nat) (k : IntKind) : ∀ ns : List Nat, scL m (ns.map fun (n : Nat) => AV.int k (n : Int)) = true
  | [] => rfl
  | n :: ns => by simp only [List.map_cons, scL, sc, scL_ints m k ns, Bool.and_self]
attribute [local go_sem] head_take_drop
theorem fieldsR_le : ∀ (l : List Fld) (acc : List UInt8) (long : Bool), acc.length ≤ 1232 → (fieldsR acc long l).1.length ≤ 1232
  | [], acc, long, h => by simp only [fieldsR]; split <;> simp [h]
  | f :: l, acc, long, h => by
    simp only [fieldsR]
    split
    · simp
    · split
      · simp
      · split
        · exact fieldsR_le l acc true h
        · rename_i hc
          simp only [Bool.or_eq_true, decide_eq_true_eq, not_or] at hc
          exact fieldsR_le l _ _ (by simp; omega)
theorem wireFields_le (l : List Fld) : (wireFields l).1.length ≤ 1232 := by
  unfold wireFields
  split
  · simp
  · exact fieldsR_le l [] false (by simp)
theorem or_head {a b c : Int} (a1 : 0 ≤ a) (a2 : a ≤ 3) (b1 : 0 ≤ b) (b2 : b ≤ 7) (c1 : 0 ≤ c) (c2 : c ≤ 7) : IntKind.i64.wrap (orI .i64 (IntKind.i64.wrap (orI .i64 (IntKind.i64.wrap (a * 64)) (IntKind.i64.wrap (b * 8)))) c) = a * 64 + b * 8 + c := by
  obtain ⟨a, rfl⟩ := Int.eq_ofNat_of_zero_le a1
  obtain ⟨b, rfl⟩ := Int.eq_ofNat_of_zero_le b1
  obtain ⟨c, rfl⟩ := Int.eq_ofNat_of_zero_le c1
  have key : ∀ a < 4, ∀ b < 8, ∀ c < 8, (a * 64 ||| b * 8) ||| c = a * 64 + b * 8 + c ∧ (a * 64 ||| b * 8) < 512 := by decide
  obtain ⟨k1, k2⟩ := key a (by omega) b (by omega) c (by omega)
  rw [wrapI (x := (a : Int) * 64) (by omega), wrapI (x := (b : Int) * 8) (by omega)]
  rw [show (a : Int) * 64 = ((a * 64 : Nat) : Int) by omega, show (b : Int) * 8 = ((b * 8 : Nat) : Int) by omega]
  rw [orI_nat (k := .i64) (by simp [IntKind.bits]; omega) (by simp [IntKind.bits]; omega), wrapI_nat (by omega), orI_nat (k := .i64) (by simp [IntKind.bits]; omega) (by simp [IntKind.bits]; omega), k1, wrapI_nat (by omega)]
  omega
theorem n3_lt {p : Pkt} (hp : p.Ok) {g n : Nat} (h : p.n3[g]? = some n) : n < 2 ^ 32 := by
  have := List.mem_of_getElem? h
  simp only [Pkt.n3, List.mem_cons, List.not_mem_nil, or_false] at this
  rcases this with rfl | rfl | rfl
  · exact hp.h6
  · exact hp.h7
  · exact hp.h8
theorem n4_lt {p : Pkt} (hp : p.Ok) {g n : Nat} (h : p.n4[g]? = some n) : n < 2 ^ 64 := by
  have := List.mem_of_getElem? h
  simp only [Pkt.n4, List.mem_cons, List.not_mem_nil, or_false] at this
  rcases this with rfl | rfl | rfl | rfl
  · exact hp.h9
  · exact hp.h10
  · exact hp.h11
  · exact hp.h12
def w1 (p : Pkt) (g : Nat) : List UInt8 := (p.h4 ++ beL 4 (p.n3.take g)) ++ List.replicate (44 - 4 * g) 0
def w2 (p : Pkt) (g : Nat) : List UInt8 := (p.h4 ++ beL 4 p.n3 ++ beL 8 (p.n4.take g)) ++ List.replicate (32 - 8 * g) 0
theorem beL_snoc {k g n : Nat} {ns : List Nat} (h : ns[g]? = some n) : beL k (ns.take (g + 1)) = beL k (ns.take g) ++ beB k n := by
  rw [List.take_add_one, h]; simp [beL]
theorem beL_length (k : Nat) (ns : List Nat) : (beL k ns).length = k * ns.length := by
  induction ns with
  | nil => rfl
  | cons n ns ih => simp only [beL, List.map_cons, List.flatten_cons, List.length_append, beB_length, List.length_cons] at ih ⊢; rw [ih, Nat.mul_add]; omega
theorem w1_next {p : Pkt} {g n : Nat} (hg : g < 3) (h : p.n3[g]? = some n) : layB (w1 p g) (beB 4 n) (4 + 4 * g) 4 = w1 p (g + 1) := by
  have hl : (p.h4 ++ beL 4 (p.n3.take g)).length = 4 + 4 * g := by
    simp only [List.length_append, beL_length, List.length_take]
    have : p.n3.length = 3 := rfl
    have : p.h4.length = 4 := rfl
    omega
  have := layB_end (p.h4 ++ beL 4 (p.n3.take g)) (beB 4 n) (44 - 4 * g) (by simp; omega)
  rw [hl, beB_length] at this
  rw [w1, this, w1, beL_snoc h, List.append_assoc p.h4, show 44 - 4 * g - 4 = 44 - 4 * (g + 1) by omega]
theorem w2_next {p : Pkt} {g n : Nat} (hg : g < 4) (h : p.n4[g]? = some n) : layB (w2 p g) (beB 8 n) (16 + 8 * g) 8 = w2 p (g + 1) := by
  have hl : (p.h4 ++ beL 4 p.n3 ++ beL 8 (p.n4.take g)).length = 16 + 8 * g := by
    simp only [List.length_append, beL_length, List.length_take]
    have : p.n3.length = 3 := rfl
    have : p.n4.length = 4 := rfl
    have : p.h4.length = 4 := rfl
    omega
  have := layB_end (p.h4 ++ beL 4 p.n3 ++ beL 8 (p.n4.take g)) (beB 8 n) (32 - 8 * g) (by simp; omega)
  rw [hl, beB_length] at this
  rw [w2, this, w2, beL_snoc h, List.append_assoc (p.h4 ++ beL 4 p.n3), show 32 - 8 * g - 8 = 32 - 8 * (g + 1) by omega]
theorem w1_length (p : Pkt) (g : Nat) (hg : g ≤ 3) : (w1 p g).length = 48 := by
  simp only [w1, List.length_append, beL_length, List.length_take, List.length_replicate]
  have : p.n3.length = 3 := rfl
  have : p.h4.length = 4 := rfl
  omega
theorem w2_length (p : Pkt) (g : Nat) (hg : g ≤ 4) : (w2 p g).length = 48 := by
  simp only [w2, List.length_append, beL_length, List.length_take, List.length_replicate]
  have : p.n3.length = 3 := rfl
  have : p.n4.length = 4 := rfl
  have : p.h4.length = 4 := rfl
  omega

set_option maxRecDepth 100000 in
set_option maxHeartbeats 1000000 in
theorem wire_Write (p : Pkt) (hp : p.Ok) : ACall Tryz.prog 40 [.agg p.av] [] (resA2 (wireWrite p)) [] := by
  refine acall_ex Tryz.func40 (by kernel_rfl) rfl Tryz.ntmps40 (by simp) fun w ok0 ι hι => ?_
  simp [go_sem]
  refine call_pure (wire_fits _ _ _) rfl rfl rfl rfl rfl ?_
  simp [go_sem]
  refine call_gd rfl rfl rfl rfl rfl (fun _ => wire_fits _ _ _) rfl (by simp [go_sem]) ?_
  simp [go_sem]
  refine call_gd rfl rfl rfl rfl rfl (fun _ => wire_fits _ _ _) rfl (by simp [go_sem]) ?_
  simp [go_sem]
  refine call_gd rfl rfl rfl rfl rfl (fun _ => wire_fits _ _ _) rfl (by simp [go_sem]) ?_
  simp [go_sem]
  refine call_gd rfl rfl rfl rfl rfl (fun _ => wire_fits _ _ _) rfl (by simp [go_sem]) ?_
  simp [go_sem]
  refine call_gd rfl rfl rfl rfl rfl (fun _ => wire_fits _ _ _) rfl (by simp [go_sem]) ?_
  simp [go_sem]
  refine ⟨fun hbad => ?_, fun a1 a2 a3 a4 a5 a6 a7 a8 a9 a10 a11 a12 => ?_⟩
  · have hh : p.head = false := by
      cases he : p.head with
      | false => rfl
      | true => simp only [Pkt.head, Bool.and_eq_true, decide_eq_true_eq] at he; omega
    refine fin0 (.inl rfl) hι Tryz.results40 ?_
    simp [go_sem, wireWrite, hh]
  have hh : p.head = true := by simp only [Pkt.head, Bool.and_eq_true, decide_eq_true_eq]; omega
  refine call_pure (wire_Fields p.fields hp.hf) rfl rfl rfl rfl rfl ?_
  simp [go_sem]
  obtain ⟨f, e, hfe⟩ : ∃ f e, wireFields p.fields = (f, e) := ⟨_, _, rfl⟩
  simp [go_sem, hfe]
  refine ⟨fun he => ?_, fun he => ?_⟩
  · refine fin0 (.inl rfl) hι Tryz.results40 ?_
    simp [go_sem, wireWrite, hh, hfe, he]
  subst he
  simp [go_sem]
  refine draw_ex [] (by kernel_rfl) fun ops1 okD hok => ?_
  simp [go_sem]
  refine ⟨hok _ (by kernel_rfl), ?_⟩
  have hor := or_head a1 a2 a3 a4 a5 a6
  have hlen3 : p.n3.length = 3 := rfl
  have hlen4 : p.n4.length = 4 := rfl
  refine loop_w (γ := { g : Nat // g ≤ 3 }) (fun g => ⟨[(85, .int .i64 g.1), (84, .agg (p.n3.map fun (n : Nat) => AV.int .u32 (n : Int))), (6, .ptr 1 0), (4, .str f), (1, .ptr 0 0)], [.box 48 p.av, .rows 127 1 2 (bytesA (w1 p g.1))]⟩) (fun g => 3 - g.1) ⟨0, by simp⟩ (by simp [hι]) (by simp [go_sem, Pkt.n3]) (by simp [go_sem, w1, hor, bytesA, Pkt.h4, beL, List.replicate]) ?_
  rintro ⟨g, hg⟩
  simp [go_sem]
  refine ⟨fun hlt => ?_, fun hge => ?_⟩
  · obtain ⟨n, hn⟩ : ∃ n, p.n3[g]? = some n := ⟨_, List.getElem?_eq_getElem (by omega)⟩
    have hnb := n3_lt hp hn
    have e1 : IntKind.i64.wrap (4 * (g : Int)) = 4 * (g : Int) := wrapI (by omega)
    have e2 : IntKind.i64.wrap (4 + 4 * (g : Int)) = 4 + 4 * (g : Int) := wrapI (by omega)
    have e3 : IntKind.i64.wrap (8 + 4 * (g : Int)) = 8 + 4 * (g : Int) := wrapI (by omega)
    have e4 : IntKind.u64.wrap (n : Int) = n := wrap64' (by omega) (by omega)
    have e5 : (4 + 4 * (g : Int)).toNat = 4 + 4 * g := by omega
    have e6 : (8 + 4 * (g : Int)).toNat = 8 + 4 * g := by omega
    have e7 : 8 + 4 * g - (4 + 4 * g) = 4 := by omega
    have hs : IntKind.i64.wrap ((g : Int) + 1) = ((g + 1 : Nat) : Int) := wrapI_succ (by omega)
    simp [go_sem, hn, e1, e2, e3, e4, e5, e6, e7, hlen3]
    refine ⟨by omega, ⟨w1_length p g hg, by omega, by omega⟩, ?_⟩
    refine call_at [1] (wire_put 127 2 (w1 p g) (4 + 4 * g) 4 n (by rw [w1_length p g hg]; omega) (by simp) (by rw [w1_length p g hg]; omega) (by omega)) rfl rfl rfl rfl rfl (by simp) (by simp) (by simp [go_sem]) (by simp [go_sem]) ?_
    simp [go_sem, w1_next (show g < 3 by omega) hn]
    refine next_w ⟨g + 1, by omega⟩ (by simp; omega) (by simp [hι]) (by simp [go_sem, hs]) (by simp [go_sem])
  refine out_exit ?_
  have : g = 3 := by omega
  subst this
  simp [go_sem]
  refine loop_w (γ := { g : Nat // g ≤ 4 }) (fun g => ⟨[(109, .int .i64 g.1), (108, .agg (p.n4.map fun (n : Nat) => AV.int .u64 (n : Int))), (6, .ptr 1 0), (4, .str f)], [.box 48 p.av, .rows 127 1 2 (bytesA (w2 p g.1))]⟩) (fun g => 4 - g.1) ⟨0, by simp⟩ (by simp [hι]) (by simp [go_sem, Pkt.n4]) (by simp [go_sem, w1, w2, beL, List.take_of_length_le, Pkt.n3]) ?_
  rintro ⟨g, hg⟩
  simp [go_sem]
  refine ⟨fun hlt => ?_, fun hge => ?_⟩
  · obtain ⟨n, hn⟩ : ∃ n, p.n4[g]? = some n := ⟨_, List.getElem?_eq_getElem (by omega)⟩
    have hnb := n4_lt hp hn
    have e1 : IntKind.i64.wrap (8 * (g : Int)) = 8 * (g : Int) := wrapI (by omega)
    have e2 : IntKind.i64.wrap (16 + 8 * (g : Int)) = 16 + 8 * (g : Int) := wrapI (by omega)
    have e3 : IntKind.i64.wrap (24 + 8 * (g : Int)) = 24 + 8 * (g : Int) := wrapI (by omega)
    have e5 : (16 + 8 * (g : Int)).toNat = 16 + 8 * g := by omega
    have e6 : (24 + 8 * (g : Int)).toNat = 24 + 8 * g := by omega
    have e7 : 24 + 8 * g - (16 + 8 * g) = 8 := by omega
    have hs : IntKind.i64.wrap ((g : Int) + 1) = ((g + 1 : Nat) : Int) := wrapI_succ (by omega)
    simp [go_sem, hn, e1, e2, e3, e5, e6, e7, hlen4]
    refine ⟨by omega, ⟨w2_length p g hg, by omega, by omega⟩, ?_⟩
    refine call_at [1] (wire_put 127 2 (w2 p g) (16 + 8 * g) 8 n (by rw [w2_length p g hg]; omega) (by simp) (by rw [w2_length p g hg]; omega) (by omega)) rfl rfl rfl rfl rfl (by simp) (by simp) (by simp [go_sem]) (by simp [go_sem]) ?_
    simp [go_sem, w2_next (show g < 4 by omega) hn]
    refine next_w ⟨g + 1, by omega⟩ (by simp; omega) (by simp [hι]) (by simp [go_sem, hs]) (by simp [go_sem])
  refine out_exit ?_
  have : g = 4 := by omega
  subst this
  have hw4 : w2 p 4 = p.headB := by simp [w2, Pkt.headB, Pkt.n4]
  have hwl := w2_length p 4 (by omega)
  simp [go_sem, hwl]
  have hfl := wireFields_le p.fields
  rw [hfe] at hfl
  simp only at hfl
  refine ⟨by omega, ?_⟩
  refine fin0 (.inl rfl) hι Tryz.results40 ?_
  have htk : (w2 p 4).take 48 = w2 p 4 := List.take_of_length_le (by omega)
  rw [hw4] at htk
  simp [go_sem, wireWrite, hh, hfe, htk, hw4]
end T1
