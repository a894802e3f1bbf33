/- T14: a part of the proof. -/
import Derived.Test.YtgcggepppeficaaGreatDoorT13
set_option linter.all false
set_option linter.unusedVariables false
set_option linter.unnecessarySimpa false
set_option linter.unusedSimpArgs false
set_option linter.unusedSimpArgs false
namespace T1
open Go SX Go.Proofs

/-- A number's bytes, the highest first. -/
def beB : Nat → Nat → List UInt8
  | 0, _ => []
  | k + 1, n => beB k (n / 256) ++ [UInt8.ofNat (n % 256)]
@[simp] theorem beB_length : ∀ k n, (beB k n).length = k
  | 0, _ => rfl
  | k + 1, n => by simp [beB, beB_length k]
theorem beB_get : ∀ (k n i : Nat), i < k → (beB k n)[i]? = some (UInt8.ofNat (n / 256 ^ (k - 1 - i) % 256))
  | 0, n, i, h => by omega
  | k + 1, n, i, h => by
    simp only [beB]
    rcases Nat.lt_or_ge i k with h1 | h1
    · rw [List.getElem?_append_left (by simpa using h1), beB_get k _ i h1, Nat.div_div_eq_div_mul]
      have : k + 1 - 1 - i = (k - 1 - i) + 1 := by omega
      rw [this, Nat.pow_succ, Nat.mul_comm]
    · have : i = k := by omega
      subst this
      rw [List.getElem?_append_right (by simp)]
      simp

theorem getD_bytesA {s : List UInt8} {i : Nat} {b : UInt8} (h : s[i]? = some b) : (bytesA s).getD i [] = [.int .u8 (b.toNat : Int)] := by
  simp [bytesA, List.getD, h]
theorem set_bytesA (s : List UInt8) (i : Nat) (b : UInt8) : (bytesA s).set i [.int .u8 (b.toNat : Int)] = bytesA (s.set i b) := by
  simp [bytesA, List.map_set]
theorem get_bytesA (s : List UInt8) (i : Nat) : (bytesA s)[i]? = (s[i]?).map fun b => [.int .u8 (b.toNat : Int)] := by simp [bytesA]
theorem put_bytesA {t : List UInt8} {i : Nat} (h : i < t.length) (b : UInt8) : (bytesA t).set i (overlay ((bytesA t)[i]?.getD []) [.int .u8 (b.toNat : Int)]) = bytesA (t.set i b) := by
  rw [get_bytesA, List.getElem?_eq_getElem h]
  simp [overlay, set_bytesA]
theorem byteOf_toNat (b : UInt8) : byteOf (b.toNat : Int) = b := by
  have := b.toNat_lt
  unfold byteOf
  rw [show ((b.toNat : Int) % 256).toNat = b.toNat by omega]
  simp
theorem addN (a b : Nat) : ((a : Int) + (b : Int)).toNat = a + b := by omega
theorem byteOf_shr {n j : Nat} (hn : n < 2 ^ 64) : byteOf ((n : Int).fdiv (2 ^ min (8 * (j : Int)).toNat 64)) = UInt8.ofNat (n / 256 ^ j % 256) := by
  have e : (8 * (j : Int)).toNat = 8 * j := by omega
  rw [e]
  have hp : 256 ^ j = 2 ^ (8 * j) := by rw [Nat.pow_mul]
  have h1 : (n : Int).fdiv (2 ^ min (8 * j) 64) = ((n / 2 ^ min (8 * j) 64 : Nat) : Int) := by
    rw [Int.fdiv_eq_ediv_of_nonneg _ (by exact_mod_cast Nat.zero_le _)]
    push_cast; rfl
  rw [h1, byteOf, hp]
  rcases Nat.le_total (8 * j) 64 with h2 | h2
  · rw [Nat.min_eq_left h2]; congr 1
  · rw [Nat.min_eq_right h2, Nat.div_eq_of_lt hn, Nat.div_eq_of_lt (Nat.lt_of_lt_of_le hn (Nat.pow_le_pow_right (by omega) h2))]
    rfl
attribute [local go_sem] u8_byte

/-- Bytes with others laid over them. -/
def layB (s t : List UInt8) (o k : Nat) : List UInt8 := s.take o ++ t.take k ++ s.drop (o + k)
theorem layB_length {s t : List UInt8} {o k : Nat} (hk : k ≤ t.length) (ho : o + k ≤ s.length) : (layB s t o k).length = s.length := by simp [layB]; omega
theorem layB_succ {s t : List UInt8} {o k : Nat} {b : UInt8} (hb : t[k]? = some b) (ho : o + k < s.length) : (layB s t o k).set (o + k) b = layB s t o (k + 1) := by
  have hk := (List.getElem?_eq_some_iff.1 hb).1
  have e1 : (s.take o ++ t.take k).length = o + k := by simp; omega
  unfold layB
  rw [List.set_append_right _ _ (by omega), e1, Nat.sub_self, List.drop_eq_getElem_cons ho, List.set_cons_zero]
  rw [show t.take (k + 1) = t.take k ++ [b] by rw [List.take_add_one, hb]; rfl]
  simp [Nat.add_assoc]

set_option maxRecDepth 100000 in
set_option maxHeartbeats 1000000 in
theorem wire_put (e fl : Nat) (s : List UInt8) (o len n : Nat) (ho : o + len ≤ s.length) (hf : fl ≠ 3) (hl : s.length < 100000000) (hn : n < 2 ^ 64) : ACall Tryz.prog 56 [.own 0 1 o len, .int .u64 n] [.rows e 1 fl (bytesA s)] (.tup []) [.rows e 1 fl (bytesA (layB s (beB len n) o len))] := by
  refine acall_ex Tryz.func56 (by kernel_rfl) rfl Tryz.ntmps56 (by simp) fun w ok0 ι hι => ?_
  simp [go_sem]
  refine loop_w (γ := { k : Nat // k ≤ len }) (fun g => ⟨[(7, .int .i64 g.1), (6, .int .i64 len), (0, .own 0 1 o len), (1, .int .u64 n)], [.rows e 1 fl (bytesA (layB s (beB len n) o g.1))]⟩) (fun g => len - g.1) ⟨0, by simp⟩ (by simp [hι]) (by simp [go_sem]) (by simp [go_sem, layB]) ?_
  rintro ⟨k, hk⟩
  simp [go_sem]
  refine ⟨fun hlt => ?_, fun hge => ?_⟩
  · have hs : IntKind.i64.wrap ((k : Int) + 1) = ((k + 1 : Nat) : Int) := wrapI_succ (by omega)
    have h1 : IntKind.i64.wrap ((len : Int) - 1) = (len : Int) - 1 := wrapI (by omega)
    have h2 : IntKind.i64.wrap ((len : Int) - 1 - k) = ((len - 1 - k : Nat) : Int) := by rw [wrapI (by omega)]; omega
    have h3 : IntKind.i64.wrap (8 * ((len - 1 - k : Nat) : Int)) = ((8 * (len - 1 - k) : Nat) : Int) := by rw [wrapI (by omega)]; omega
    have hlay : (layB s (beB len n) o k).length = s.length := layB_length (by simp; omega) (by omega)
    simp [go_sem, h1, h2, h3, addN, hlay]
    refine ⟨by omega, hlt, ⟨by omega, hf⟩, ?_⟩
    rw [put_bytesA (by rw [hlay]; omega), byteOf_shr hn, layB_succ (beB_get len n k hlt) (by omega)]
    refine next_w ⟨k + 1, by omega⟩ (by simp; omega) (by simp [hι]) (by simp [go_sem, hs]) (by simp [go_sem])
  · refine out_exit ?_
    have : k = len := by omega
    subst this
    simp [go_sem]
    refine fin_ex 1 [] (.inr rfl) hι Tryz.results56 ?_
    simp [go_sem]

@[go_sem] theorem rep_bytesA (n : Nat) : List.replicate n [AV.int .u8 0] = bytesA (List.replicate n 0) := by simp [bytesA]
theorem tail_set {u : List UInt8} {m : Nat} {b : UInt8} (h : u[m]? = some b) : (List.replicate (m + 1) 0 ++ u.drop (m + 1)).set m b = List.replicate m 0 ++ u.drop m := by
  have hm := (List.getElem?_eq_some_iff.1 h)
  rw [List.replicate_succ', List.append_assoc, List.set_append_right _ _ (by simp)]
  simp only [List.length_replicate, Nat.sub_self, List.cons_append, List.nil_append, List.set_cons_zero]
  rw [List.drop_eq_getElem_cons hm.1, hm.2]

def shr8 (n k : Nat) : Nat := n / 256 ^ k
def endB (u : List UInt8) (m : Nat) : List UInt8 := List.replicate m 0 ++ u.drop m

set_option maxRecDepth 100000 in
set_option maxHeartbeats 1000000 in
theorem ref21_number (n size : Nat) (hz : size < 1000000) (hn : n < 2 ^ 64) : ACall Tryz.prog 27 [.int .u64 n, .int .i64 size] [] (.str (beB size n)) [] := by
  refine acall_ex Tryz.func27 (by kernel_rfl) rfl Tryz.ntmps27 (by simp) fun w ok0 ι hι => ?_
  simp [go_sem]
  refine ⟨⟨by omega, by simp [maxLen]; omega, by omega⟩, ?_⟩
  have hw : IntKind.i64.wrap ((size : Int) - 1) = (size : Int) - 1 := wrapI (by omega)
  have hz0 : bytesA (List.replicate size 0) = bytesA (endB (beB size n) size) := by simp [endB, List.drop_of_length_le]
  refine loop_w (γ := { m : Nat // m ≤ size }) (fun g => ⟨[(6, .int .i64 ((g.1 : Int) - 1)), (5, .own 0 1 0 size), (0, .int .u64 (shr8 n (size - g.1))), (4, .str [])], [.rows 5 1 1 (bytesA (endB (beB size n) g.1))]⟩) (fun g => g.1) ⟨size, by simp⟩ (by simp [hι]) (by simp [go_sem, hw, shr8]) (by simp [go_sem, hz0]) ?_
  rintro ⟨m, hm⟩
  cases m with
  | zero =>
    simp [go_sem]
    refine out_exit ?_
    simp [go_sem, endB]
    refine fin0 (.inl rfl) hι Tryz.results27 ?_
    simp [go_sem]
    refine .of_eq ?_
    rw [List.take_of_length_le (by simp)]
  | succ m =>
    have e0 : ((m + 1 : Nat) : Int) - 1 = (m : Int) := by omega
    have h1 : IntKind.i64.wrap ((m : Int) - 1) = (m : Int) - 1 := wrapI (by omega)
    obtain ⟨q, hq⟩ : ∃ q, q = shr8 n (size - (m + 1)) := ⟨_, rfl⟩
    have hd : q < 2 ^ 64 := by rw [hq]; exact Nat.lt_of_le_of_lt (Nat.div_le_self _ _) hn
    have hmod : (q : Int).tmod 256 = ((q % 256 : Nat) : Int) := by rw [Int.tmod_eq_emod_of_nonneg (by omega)]; omega
    have hnext : shr8 n (size - m) = q / 256 := by
      rw [hq, shr8, shr8, show size - m = (size - (m + 1)) + 1 by omega, Nat.pow_succ, ← Nat.div_div_eq_div_mul]
    have hdiv : IntKind.u64.wrap ((q : Int).tdiv 256) = (shr8 n (size - m) : Int) := by
      rw [hnext, Int.tdiv_eq_ediv_of_nonneg (by omega)]
      have : (q : Int) / 256 = ((q / 256 : Nat) : Int) := by omega
      rw [this, wrap64' (by omega) (by omega)]
    have hq8 : (q : Int) % 256 = ((UInt8.ofNat (q % 256)).toNat : Int) := by simp
    have hb0 : (beB size n)[m]? = some (UInt8.ofNat (q % 256)) := by
      rw [beB_get size n m (by omega), hq, shr8]; congr 5; omega
    have hlen : (endB (beB size n) (m + 1)).length = size := by simp [endB]; omega
    simp only [e0, ← hq]
    have hdiv' : IntKind.u64.wrap ((q : Int) / 256) = (shr8 n (size - m) : Int) := by
      rw [← hdiv, Int.tdiv_eq_ediv_of_nonneg (by omega)]
    have hset : (endB (beB size n) (m + 1)).set m (UInt8.ofNat (q % 256)) = endB (beB size n) m := tail_set hb0
    simp [go_sem, hmod, hlen, h1]
    rw [hq8, hdiv', byteOf_toNat, put_bytesA (by rw [hlen]; omega), hset]
    refine ⟨by omega, ?_⟩
    refine next_w ⟨m, by omega⟩ (by simp) (by simp [hι]) (by simp [go_sem]) (by simp [go_sem])
end T1
