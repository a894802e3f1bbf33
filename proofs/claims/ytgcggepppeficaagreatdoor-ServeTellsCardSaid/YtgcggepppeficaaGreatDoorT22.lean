/- T22: a part of the proof. -/
import Derived.Test.YtgcggepppeficaaGreatDoorT21
set_option linter.all false
set_option linter.unusedVariables false
set_option linter.unnecessarySimpa false
set_option linter.unusedSimpArgs false
set_option linter.unusedSimpArgs false
namespace T1
open Go SX Go.Proofs
attribute [local go_sem] maxLen

theorem orShl {n : Nat} (k : IntKind) (hk : k = .u32) (x y : Nat) (hx : x * 2 ^ n < 4294967296) (hy : y < 2 ^ n) (hn : n ≤ 32) : k.wrap (orI k ((x * 2 ^ n : Nat) : Int) (y : Int)) = ((x * 2 ^ n + y : Nat) : Int) := by
  subst hk
  have hy' : y < 4294967296 := Nat.lt_of_lt_of_le hy (Nat.pow_le_pow_right (by omega) hn)
  rw [orI_nat (k := .u32) (by simpa [IntKind.bits] using hx) (by simpa [IntKind.bits] using hy'), ← Nat.shiftLeft_eq, ← Nat.shiftLeft_add_eq_or_of_lt hy, Nat.shiftLeft_eq]
  have h2 : x * 2 ^ n + y < 4294967296 := by
    have h3 : (x + 1) * 2 ^ n ≤ 4294967296 := by
      have e : 4294967296 = 2 ^ (32 - n) * 2 ^ n := by rw [← Nat.pow_add, Nat.sub_add_cancel hn]
      rw [e] at hx ⊢
      have := Nat.lt_of_mul_lt_mul_right hx
      exact Nat.mul_le_mul_right _ this
    rw [Nat.add_mul] at h3; omega
  exact wrap32' (by omega) (by omega)
@[go_sem] theorem wb8 (b : UInt8) : IntKind.u8.wrap (b.toNat : Int) = b.toNat := by have := b.toNat_lt; exact wrap8' (by omega) (by omega)
@[go_sem] theorem wb32 (b : UInt8) : IntKind.u32.wrap (b.toNat : Int) = b.toNat := by have := b.toNat_lt; exact wrap32' (by omega) (by omega)
@[go_sem] theorem wb64 (b : UInt8) : IntKind.u64.wrap (b.toNat : Int) = b.toNat := by have := b.toNat_lt; exact wrap64' (by omega) (by omega)
@[go_sem] theorem wbi (b : UInt8) : IntKind.i64.wrap (b.toNat : Int) = b.toNat := by have := b.toNat_lt; exact wrapI (by omega)
/-- A cookie's number. -/
def id4 (a b c d : UInt8) : Int := ((a.toNat * 256 + b.toNat) * 256 + c.toNat) * 256 + d.toNat
theorem or4 (a b c d : UInt8) : IntKind.u32.wrap (orI .u32 (IntKind.u32.wrap (orI .u32 (IntKind.u32.wrap (orI .u32 (IntKind.u32.wrap ((a.toNat : Int) * 16777216)) (IntKind.u32.wrap ((b.toNat : Int) * 65536)))) (IntKind.u32.wrap ((c.toNat : Int) * 256)))) (d.toNat : Int)) = id4 a b c d := by
  have ha := a.toNat_lt
  have hb := b.toNat_lt
  have hc := c.toNat_lt
  have hd := d.toNat_lt
  rw [wrap32' (x := (a.toNat : Int) * 16777216) (by omega) (by omega), wrap32' (x := (b.toNat : Int) * 65536) (by omega) (by omega), wrap32' (x := (c.toNat : Int) * 256) (by omega) (by omega)]
  have e1 := orShl (n := 24) .u32 rfl a.toNat (b.toNat * 65536) (by omega) (by omega) (by omega)
  have e2 := orShl (n := 16) .u32 rfl (a.toNat * 256 + b.toNat) (c.toNat * 256) (by omega) (by omega) (by omega)
  have e3 := orShl (n := 8) .u32 rfl ((a.toNat * 256 + b.toNat) * 256 + c.toNat) d.toNat (by omega) (by omega) (by omega)
  rw [show (a.toNat : Int) * 16777216 = ((a.toNat * 2 ^ 24 : Nat) : Int) by omega, show (b.toNat : Int) * 65536 = ((b.toNat * 65536 : Nat) : Int) by omega, e1]
  rw [show a.toNat * 2 ^ 24 + b.toNat * 65536 = (a.toNat * 256 + b.toNat) * 2 ^ 16 by omega, show (c.toNat : Int) * 256 = ((c.toNat * 256 : Nat) : Int) by omega, e2]
  rw [show (a.toNat * 256 + b.toNat) * 2 ^ 16 + c.toNat * 256 = ((a.toNat * 256 + b.toNat) * 256 + c.toNat) * 2 ^ 8 by omega, e3]
  unfold id4; omega

set_option maxRecDepth 100000 in
set_option maxHeartbeats 1000000 in
theorem cook_Open_none (r : Ring) (s : List UInt8) (a b c d : UInt8) (t : List UInt8) (hs : s = a :: b :: c :: d :: t) (hl : 20 ≤ s.length) (hr : r.keys.length < 1000000000000) (hn : keyAt (id4 a b c d) 0 r.keys < 0) :
    ACall Tryz.prog 36 [.agg [.bool false, .nilsl], r.av, .str s] [] (.tup [.agg [.int .i64 0, .str [], .str []], .int .i64 19]) [] := by
  refine acall_ex Tryz.func36 (by kernel_rfl) rfl Tryz.ntmps36 (by simp) fun w ok0 ι hι => ?_
  have g0 : s[0]? = some a := by rw [hs]; rfl
  have g1 : s[1]? = some b := by rw [hs]; rfl
  have g2 : s[2]? = some c := by rw [hs]; rfl
  have g3 : s[3]? = some d := by rw [hs]; rfl
  have hl' : ¬ (s.length : Int) < 20 := by omega
  simp [go_sem, hl']
  refine draw_ex [(19, pureR (.int .i64 (keyAt (id4 a b c d) 0 r.keys)))] (by kernel_rfl) fun ops1 okD hok => ?_
  have cf := ring_Find r (id4 a b c d) hr
  simp [go_sem] at cf
  simp [go_sem, g0, g1, g2, g3, or4, cf, hn]
  refine ⟨by omega, by omega, by omega, by omega, hok _ (by kernel_rfl), ?_⟩
  refine fin0 (.inl rfl) hι Tryz.results36 ?_
  simp [go_sem]

/-- A server's work, where nothing is opened yet. -/
@[go_sem] def workC (x : Ntsd) (a : Asked) (reply : List UInt8) (did : Int) (du req dr : List UInt8) (recv xmit : Int) : List AV :=
  [.bool false, .nilsl] ++ x.cs ++ a.av ++ [.nilsl, .int .i64 0, .str [], .str []] ++
  [.int .i64 0, .int .i64 0, .int .i64 0, .int .i64 0, .int .i64 0, .int .i64 0, .int .u32 0, .int .u32 0, .int .u32 0, .int .u64 0, .int .u64 0, .int .u64 0, .int .u64 0, .nilsl, .nilsl, .nilsl] ++
  [.nilsl, .str reply, .int .i64 did, .str du, .str req, .str dr, .int .u64 recv, .int .u64 xmit]

set_option maxRecDepth 100000 in
set_option maxHeartbeats 1000000 in
theorem work_open_none (x : Ntsd) (k : Asked) (req : List UInt8) (recv xmit : Int) (a b c d : UInt8) (t : List UInt8) (hs : k.cookie = a :: b :: c :: d :: t) (hl : 20 ≤ k.cookie.length) (hr : x.ring.keys.length < 1000000000000) (hn : keyAt (id4 a b c d) 0 x.ring.keys < 0) :
    ACall Tryz.prog 21 [.ptr 0 0] [.box 70 (workC x k [] 0 [] req [] recv xmit)] (.int .i64 19) [.box 70 (workC x k [] 0 [] req [] recv xmit)] := by
  refine acall_ex Tryz.func21 (by kernel_rfl) rfl Tryz.ntmps21 (by simp) fun w ok0 ι hι => ?_
  simp [go_sem]
  refine draw_ex [(15, pureR (.tup [.agg [.int .i64 0, .str [], .str []], .int .i64 19]))] (by kernel_rfl) fun ops1 okD hok => ?_
  have cf := cook_Open_none x.ring k.cookie a b c d t hs hl hr hn
  simp [go_sem] at cf
  simp [go_sem, cf]
  refine ⟨hok _ (by kernel_rfl), ?_⟩
  refine fin_ex 1 [] (.inl rfl) hι Tryz.results21 ?_
  simp [go_sem]

set_option maxRecDepth 100000 in
set_option maxHeartbeats 1000000 in
theorem work_unique (x : Ntsd) (k : Asked) (req : List UInt8) (recv xmit : Int) :
    ACall Tryz.prog 39 [.ptr 0 0] [.box 70 (workC x k [] 0 [] req [] recv xmit)] (.xs 2 [Fld.av ⟨260, k.unique⟩]) [.box 70 (workC x k [] 0 [] req [] recv xmit)] := by
  refine acall_ex Tryz.func39 (by kernel_rfl) rfl Tryz.ntmps39 (by simp) fun w ok0 ι hι => ?_
  simp [go_sem]
  refine fin_ex 1 [] (.inl rfl) hι Tryz.results39 ?_
  simp [go_sem]

def nakP (k : Asked) : Pkt := ⟨0, 4, 4, 0, 0, 0, 0, 0, 1314149198, 0, k.p.xmit, 0, 0, [⟨260, k.unique⟩]⟩
set_option maxRecDepth 100000 in
set_option maxHeartbeats 1000000 in
theorem work_nak (x : Ntsd) (k : Asked) (req : List UInt8) (recv xmit : Int) (hx : k.p.xmit < 2 ^ 64) (hu : k.unique.length < 10000000000000) :
    ACall Tryz.prog 22 [.ptr 0 0] [.box 70 (workC x k [] 0 [] req [] recv xmit)] (.tup []) [.box 70 (workC x k (wireWrite (nakP k)).1 0 [] req [] recv xmit)] := by
  refine acall_ex Tryz.func22 (by kernel_rfl) rfl Tryz.ntmps22 (by simp) fun w ok0 ι hι => ?_
  simp [go_sem]
  have c0 := wire_Kiss_NTSN
  have cu := work_unique x k req recv xmit
  simp [go_sem] at cu
  simp [NTSN] at c0
  refine draw_new 12 1 [(0, pureR (.int .u32 1314149198)), (8, ⟨[0], some [.ptr 0 0], [.box 70 (workC x k [] 0 [] req [] recv xmit)], .xs 2 [Fld.av ⟨260, k.unique⟩], []⟩)] (by kernel_rfl) (by simp [go_sem, hι]) fun ops1 okD hok => ?_
  simp [go_sem, c0, cu]
  refine ⟨hok _ (by kernel_rfl), ?_⟩
  have hok' : (nakP k).Ok := ⟨by simp [nakP], by simp [nakP], by simp [nakP], by simp [nakP], hx, by simp [nakP], by simp [nakP], by simp [nakP, fldsSmall]; exact hu⟩
  refine call_pure (wire_Write (nakP k) hok') rfl rfl rfl rfl rfl ?_
  simp [go_sem]
  refine fin_ex 1 [] (.inr rfl) hι Tryz.results22 ?_
  simp [go_sem]

@[go_sem] def Ntsd.add (x : Ntsd) (a b c : Int) : Ntsd := { x with served := a, naks := b, drops := c }
@[go_sem] def did0 : List AV := [.int .i64 0, .str [], .str [], .str [], .int .u64 0, .int .u64 0]

set_option maxRecDepth 100000 in
set_option maxHeartbeats 2000000 in
theorem Handle1_drop (x : Ntsd) (a b c : Int) (wk : List AV) (hwk : wk.all nn = true) :
    ACall Tryz.prog 17 [.int .i64 0, .ptr 0 2, .ptr 0 0, .ptr 1 0, .ptr 2 0, .ptr 3 0] [.box 60 [.int .u64 a, .int .u64 b, .int .u64 c], .box 28 x.cs, .box 36 [.bool false, .nilsl], .box 62 [.ptr 4 0], .box 70 wk]
      (.tup [.agg [.bool false, .nilsl], (x.add a b (IntKind.u64.wrap (c + 1))).av, .agg did0]) [.box 60 [.int .u64 a, .int .u64 b, .int .u64 (IntKind.u64.wrap (c + 1))], .box 28 (x.add a b (IntKind.u64.wrap (c + 1))).cs, .box 36 [.bool false, .nilsl], .box 62 [.ptr 4 0], .box 70 wk] := by
  refine acall_ex Tryz.func17 (by kernel_rfl) rfl Tryz.ntmps17 (by simp) fun w ok0 ι hι => ?_
  simp [go_sem]
  refine call_at [0] (u64_Add 60 [.int .u64 a, .int .u64 b, .int .u64 c] 2 c 1 rfl rfl) rfl rfl rfl rfl rfl (by simp) (by simp) (by simp [go_sem]) (by simp [go_sem]) ?_
  simp [go_sem]
  refine call_at [0] (u64_Load 60 [.int .u64 a, .int .u64 b, .int .u64 (IntKind.u64.wrap (c + 1))] 0 a rfl rfl) rfl rfl rfl rfl rfl (by simp) (by simp) (by simp [go_sem]) (by simp [go_sem]) ?_
  simp [go_sem]
  refine call_at [0] (u64_Load 60 [.int .u64 a, .int .u64 b, .int .u64 (IntKind.u64.wrap (c + 1))] 1 b rfl rfl) rfl rfl rfl rfl rfl (by simp) (by simp) (by simp [go_sem]) (by simp [go_sem]) ?_
  simp [go_sem]
  refine call_at [0] (u64_Load 60 [.int .u64 a, .int .u64 b, .int .u64 (IntKind.u64.wrap (c + 1))] 2 _ rfl rfl) rfl rfl rfl rfl rfl (by simp) (by simp) (by simp [go_sem]) (by simp [go_sem]) ?_
  simp [go_sem]
  refine draw_ex [] (by kernel_rfl) fun ops1 okD hok => ?_
  simp [go_sem]
  refine ⟨hok _ (by kernel_rfl), ?_⟩
  refine fin_ex 5 [] (.inl rfl) hι Tryz.results17 ?_
  simp [go_sem, pubL_n hwk, pubVL_n hwk, renL_n hwk]

set_option maxRecDepth 100000 in
set_option maxHeartbeats 2000000 in
theorem Handle1_nak (x : Ntsd) (a b c : Int) (k : Asked) (reply req : List UInt8) (recv xmit : Int) :
    ACall Tryz.prog 17 [.int .i64 2, .ptr 0 1, .ptr 0 0, .ptr 1 0, .ptr 2 0, .ptr 3 0] [.box 60 [.int .u64 a, .int .u64 b, .int .u64 c], .box 28 x.cs, .box 36 [.bool false, .nilsl], .box 62 [.ptr 4 0], .box 70 (workC x k reply 0 [] req [] recv xmit)]
      (.tup [.agg [.bool false, .nilsl], (x.add a (IntKind.u64.wrap (b + 1)) c).av, .agg [.int .i64 2, .str k.unique, .str req, .str reply, .int .u64 recv, .int .u64 xmit]]) [.box 60 [.int .u64 a, .int .u64 (IntKind.u64.wrap (b + 1)), .int .u64 c], .box 28 (x.add a (IntKind.u64.wrap (b + 1)) c).cs, .box 36 [.bool false, .nilsl], .box 62 [.ptr 4 0], .box 70 (workC x k reply 2 k.unique req reply recv xmit)] := by
  refine acall_ex Tryz.func17 (by kernel_rfl) rfl Tryz.ntmps17 (by simp) fun w ok0 ι hι => ?_
  simp [go_sem]
  refine call_at [0] (u64_Add 60 [.int .u64 a, .int .u64 b, .int .u64 c] 1 b 1 rfl rfl) rfl rfl rfl rfl rfl (by simp) (by simp) (by simp [go_sem]) (by simp [go_sem]) ?_
  simp [go_sem]
  refine call_at [0] (u64_Load 60 [.int .u64 a, .int .u64 (IntKind.u64.wrap (b + 1)), .int .u64 c] 0 a rfl rfl) rfl rfl rfl rfl rfl (by simp) (by simp) (by simp [go_sem]) (by simp [go_sem]) ?_
  simp [go_sem]
  refine call_at [0] (u64_Load 60 [.int .u64 a, .int .u64 (IntKind.u64.wrap (b + 1)), .int .u64 c] 1 _ rfl rfl) rfl rfl rfl rfl rfl (by simp) (by simp) (by simp [go_sem]) (by simp [go_sem]) ?_
  simp [go_sem]
  refine call_at [0] (u64_Load 60 [.int .u64 a, .int .u64 (IntKind.u64.wrap (b + 1)), .int .u64 c] 2 c rfl rfl) rfl rfl rfl rfl rfl (by simp) (by simp) (by simp [go_sem]) (by simp [go_sem]) ?_
  simp [go_sem]
  refine draw_ex [] (by kernel_rfl) fun ops1 okD hok => ?_
  simp [go_sem]
  refine ⟨hok _ (by kernel_rfl), ?_⟩
  refine draw_ex [] (by kernel_rfl) fun ops1 okD hok => ?_
  simp [go_sem]
  refine ⟨hok _ (by kernel_rfl), ?_⟩
  refine fin_ex 5 [] (.inl rfl) hι Tryz.results17 ?_
  simp [go_sem]

@[go_sem] def vault0 : AV := .agg [.bool false, .nilsl]

set_option maxRecDepth 100000 in
set_option maxHeartbeats 4000000 in
theorem Handle_drop (x : Ntsd) (s : List UInt8) (recv xmit : Int) (hs : (serveRead s).2 ≠ 0) :
    ACall Tryz.prog 10 [vault0, x.av, .str s, .int .u64 recv, .int .u64 xmit, .nilsl] [] (.tup [vault0, (x.add x.served x.naks (IntKind.u64.wrap (x.drops + 1))).av, .agg did0]) [] := by
  refine acall_ex Tryz.func10 (by kernel_rfl) rfl Tryz.ntmps10 (by simp) fun w ok0 ι hι => ?_
  simp [go_sem]
  refine call_at [5] (u64_Store 60 [.int .u64 0, .int .u64 0, .int .u64 0] 0 _ x.served rfl rfl) rfl rfl rfl rfl rfl (by simp) (by simp) (by simp [go_sem]) (by simp [go_sem]) ?_
  simp [go_sem, out]
  refine call_at [5] (u64_Store 60 [.int .u64 x.served, .int .u64 0, .int .u64 0] 1 _ x.naks rfl rfl) rfl rfl rfl rfl rfl (by simp) (by simp) (by simp [go_sem]) (by simp [go_sem]) ?_
  simp [go_sem, out]
  refine call_at [5] (u64_Store 60 [.int .u64 x.served, .int .u64 x.naks, .int .u64 0] 2 _ x.drops rfl rfl) rfl rfl rfl rfl rfl (by simp) (by simp) (by simp [go_sem]) (by simp [go_sem]) ?_
  simp [go_sem, out]
  obtain ⟨k, e, hke⟩ : ∃ k e, serveRead s = (k, e) := ⟨_, _, rfl⟩
  rw [hke] at hs
  simp only at hs
  have cr := serve_read s
  rw [hke] at cr
  simp [go_sem] at cr
  refine draw_ex [(2, pureR (resAsked (k, e)))] (by kernel_rfl) fun ops1 okD hok => ?_
  simp [go_sem, cr, hs]
  refine ⟨hok _ (by kernel_rfl), ?_⟩
  refine call_at [5, 1, 0, 7, 6] (Handle1_drop x x.served x.naks x.drops (workC x k [] 0 [] s [] recv xmit) (by simp [go_sem])) rfl rfl rfl rfl rfl (by simp) (by simp) (by simp [go_sem]) (by simp [go_sem]) ?_
  simp [go_sem]
  refine fin0 (.inl rfl) hι Tryz.results10 ?_
  simp [go_sem]

set_option maxRecDepth 100000 in
set_option maxHeartbeats 4000000 in
theorem Handle_nak (x : Ntsd) (s : List UInt8) (recv xmit : Int) (k : Asked) (hke : serveRead s = (k, 0)) (a b c d : UInt8) (t : List UInt8) (hs : k.cookie = a :: b :: c :: d :: t) (hl : 20 ≤ k.cookie.length) (hr : x.ring.keys.length < 1000000000000) (hn : keyAt (id4 a b c d) 0 x.ring.keys < 0) (hx : k.p.xmit < 2 ^ 64) (hu : k.unique.length < 10000000000000) :
    ACall Tryz.prog 10 [vault0, x.av, .str s, .int .u64 recv, .int .u64 xmit, .nilsl] [] (.tup [vault0, (x.add x.served (IntKind.u64.wrap (x.naks + 1)) x.drops).av, .agg [.int .i64 2, .str k.unique, .str s, .str (wireWrite (nakP k)).1, .int .u64 recv, .int .u64 xmit]]) [] := by
  refine acall_ex Tryz.func10 (by kernel_rfl) rfl Tryz.ntmps10 (by simp) fun w ok0 ι hι => ?_
  simp [go_sem]
  refine call_at [5] (u64_Store 60 [.int .u64 0, .int .u64 0, .int .u64 0] 0 _ x.served rfl rfl) rfl rfl rfl rfl rfl (by simp) (by simp) (by simp [go_sem]) (by simp [go_sem]) ?_
  simp [go_sem, out]
  refine call_at [5] (u64_Store 60 [.int .u64 x.served, .int .u64 0, .int .u64 0] 1 _ x.naks rfl rfl) rfl rfl rfl rfl rfl (by simp) (by simp) (by simp [go_sem]) (by simp [go_sem]) ?_
  simp [go_sem, out]
  refine call_at [5] (u64_Store 60 [.int .u64 x.served, .int .u64 x.naks, .int .u64 0] 2 _ x.drops rfl rfl) rfl rfl rfl rfl rfl (by simp) (by simp) (by simp [go_sem]) (by simp [go_sem]) ?_
  simp [go_sem, out]
  have cr := serve_read s
  rw [hke] at cr
  simp [go_sem] at cr
  refine draw_ex [(2, pureR (resAsked (k, 0)))] (by kernel_rfl) fun ops1 okD hok => ?_
  simp [go_sem, cr]
  refine ⟨hok _ (by kernel_rfl), ?_⟩
  refine call_at [6] (work_open_none x k s recv xmit a b c d t hs hl hr hn) rfl rfl rfl rfl rfl (by simp) (by simp) (by simp [go_sem]) (by simp [go_sem]) ?_
  simp [go_sem]
  refine call_at [6] (work_nak x k s recv xmit hx hu) rfl rfl rfl rfl rfl (by simp) (by simp) (by simp [go_sem]) (by simp [go_sem]) ?_
  simp [go_sem]
  refine call_at [5, 1, 0, 7, 6] (Handle1_nak x x.served x.naks x.drops k (wireWrite (nakP k)).1 s recv xmit) rfl rfl rfl rfl rfl (by simp) (by simp) (by simp [go_sem]) (by simp [go_sem]) ?_
  simp [go_sem]
  refine fin0 (.inl rfl) hι Tryz.results10 ?_
  simp [go_sem]
end T1
