/- T20: a part of the proof. -/
import Derived.Test.YtgcggepppeficaaGreatDoorT19
set_option linter.all false
set_option linter.unusedVariables false
set_option linter.unnecessarySimpa false
set_option linter.unusedSimpArgs false
set_option linter.unusedSimpArgs false
namespace T1
open Go SX Go.Proofs
attribute [local go_sem] maxLen

/-- A set of bytes. -/
def hasB (l : List UInt8) (c : Nat) : Bool := l.any fun b => b.toNat == c
def setB (l : List UInt8) : List (List AV) := (List.range 256).map fun c => [.bool (hasB l c)]
@[go_sem] theorem setB_length (l : List UInt8) : (setB l).length = 256 := by simp [setB]
theorem setB_get (l : List UInt8) (b : UInt8) : (setB l)[b.toNat]? = some [.bool (hasB l b.toNat)] := by
  have := b.toNat_lt
  simp only [setB, List.getElem?_map]
  rw [List.getElem?_range (by omega)]; rfl
theorem setB_add (l : List UInt8) (b : UInt8) : (setB l).set b.toNat [.bool true] = setB (l ++ [b]) := by
  apply List.ext_getElem?
  intro i
  rw [List.getElem?_set]
  have hb := b.toNat_lt
  by_cases h : b.toNat = i
  · subst h
    rw [if_pos rfl, if_pos (by rw [setB_length]; omega), setB_get]; simp [hasB]
  · rw [if_neg h]
    simp only [setB, List.getElem?_map]
    rcases Nat.lt_or_ge i 256 with hi | hi
    · rw [List.getElem?_range hi]
      simp [hasB, h]
    · rw [List.getElem?_eq_none (by simpa using hi)]; rfl
theorem setB_flat (l : List UInt8) : (setB l).flatten = (List.range 256).map fun c => AV.bool (hasB l c) := by
  unfold setB
  induction (List.range 256) with
  | nil => rfl
  | cons a r ih => simpa using ih
def setF (l : List UInt8) : List AV := (setB l).flatten
@[go_sem high] theorem setB_fl (l : List UInt8) : (setB l).flatten = setF l := rfl
@[go_sem high] theorem setF_one (l : List UInt8) : (setF l).all one = true := by rw [setF, setB_flat]; simp [one]
@[go_sem high] theorem setF_nn (l : List UInt8) : (setF l).all nn = true := by rw [setF, setB_flat]; simp [nn]
@[go_sem high] theorem setF_ren (ρ : Nat → Nat) (l : List UInt8) : AV.renL ρ (setF l) = setF l := renL_n (setF_nn l)
@[go_sem high] theorem setF_len (l : List UInt8) : (setF l).length = 256 := by rw [setF, setB_flat]; simp
@[go_sem high] theorem setF_take (l : List UInt8) : (setF l).take 256 = setF l := List.take_of_length_le (by rw [setF_len]; exact Nat.le_refl _)
@[go_sem high] theorem setF_cells (l : List UInt8) : cellsA (.agg (setF l)) = some (setF l) := by simp only [cellsA, setF_one, if_true]
theorem chunks_one : ∀ (n : Nat) (l : List AV), l.length = n → chunks 1 n l = l.map fun x => [x]
  | 0, l, h => by have := List.length_eq_zero_iff.1 h; subst this; rfl
  | n + 1, [], h => by simp at h
  | n + 1, a :: l, h => by simp only [chunks, List.map_cons]; rw [show (a :: l).take 1 = [a] from rfl, show (a :: l).drop 1 = l from rfl, chunks_one n l (by simpa using h)]
@[go_sem high] theorem setF_chunks (l : List UInt8) : chunks 1 256 (setF l) = setB l := by
  rw [chunks_one _ _ (setF_len l), setF, setB_flat, setB]; simp

set_option maxRecDepth 100000 in
set_option maxHeartbeats 1000000 in
theorem ascii_contains (l : List UInt8) (b : UInt8) : ACall Tryz.prog 87 [.ptr 0 0, .int .u8 b.toNat] [.rows 163 1 2 (setB l)] (.bool (hasB l b.toNat)) [.rows 163 1 2 (setB l)] := by
  refine acall_ex Tryz.func87 (by kernel_rfl) rfl Tryz.ntmps87 (by simp) fun w ok0 ι hι => ?_
  have hb := b.toNat_lt
  simp [go_sem, setB_get]
  refine ⟨by omega, by omega, ?_⟩
  refine fin_ex 1 [] (.inl rfl) hι Tryz.results87 ?_
  simp [go_sem]

set_option maxRecDepth 100000 in
set_option maxHeartbeats 1000000 in
theorem make_ascii (s : List UInt8) (hs : ∀ b ∈ s, b.toNat < 128) (hl : s.length < 1000000) : ACall Tryz.prog 72 [.str s] [] (.tup [.agg (setF s), .bool true]) [] := by
  refine acall_ex Tryz.func72 (by kernel_rfl) rfl Tryz.ntmps72 (by simp) fun w ok0 ι hι => ?_
  simp [go_sem]
  refine loop_w (γ := { k : Nat // k ≤ s.length }) (fun g => ⟨[(4, .int .i64 g.1), (2, .ptr 0 0), (0, .str s)], [.rows 163 1 2 (setB (s.take g.1))]⟩) (fun g => s.length - g.1) ⟨0, by simp⟩ (by simp [hι]) (by simp [go_sem]) ⟨⟨by exact SubB.refl _, trivial⟩, trivial⟩ ?_
  rintro ⟨k, hk⟩
  simp [go_sem]
  refine ⟨fun hlt => ?_, fun hge => ?_⟩
  · obtain ⟨c, hc⟩ : ∃ c, s[k]? = some c := ⟨_, List.getElem?_eq_getElem hlt⟩
    have hcb := hs c (List.mem_of_getElem? hc)
    have hs' : IntKind.i64.wrap ((k : Int) + 1) = ((k + 1 : Nat) : Int) := wrapI_succ (by omega)
    have hn : ¬ (128 : Int) ≤ c.toNat := by omega
    have hn' : (c.toNat : Int) < 128 := by omega
    simp [go_sem, hc, hn, hn']
    refine ⟨hlt, by omega, by omega, ?_⟩
    have hrow : ((setB (s.take k)).set c.toNat (overlay ((setB (s.take k))[c.toNat]?.getD []) [AV.bool true])) = setB (s.take (k + 1)) := by
      rw [setB_get]
      simp only [Option.getD_some, overlay]
      rw [setB_add, List.take_add_one, hc]; rfl
    rw [hrow]
    refine next_w ⟨k + 1, by omega⟩ (by simp; omega) (by simp [hι]) (by simp [go_sem, hs']) (by simp [go_sem])
  · have : k = s.length := by omega
    subst this
    refine out_exit ?_
    simp [go_sem]
    refine fin0 (.inl rfl) hι Tryz.results72 ?_
    simp [go_sem, pubL_n (setF_nn s), pubVL_n (setF_nn s), renL_n (setF_nn s)]

/-- All of it is cut off. -/
def allIn (s l : List UInt8) : Prop := ∀ b ∈ s, hasB l b.toNat = true

set_option maxRecDepth 100000 in
set_option maxHeartbeats 1000000 in
theorem trim_right (s l : List UInt8) (hs : allIn s l) (hl : s.length < 1000000000000) : ACall Tryz.prog 74 [.str s, .ptr 0 0] [.rows 163 1 2 (setB l)] (.str []) [.rows 163 1 2 (setB l)] := by
  refine acall_ex Tryz.func74 (by kernel_rfl) rfl Tryz.ntmps74 (by simp) fun w ok0 ι hι => ?_
  simp [go_sem]
  refine loop_w (γ := { k : Nat // k ≤ s.length }) (fun g => ⟨[(0, .str (s.take g.1)), (1, .ptr 0 0)], [.rows 163 1 2 (setB l)]⟩) (fun g => g.1) ⟨s.length, by simp⟩ (by simp [hι]) (by simp [go_sem]) (by simp [go_sem]) ?_
  rintro ⟨k, hk⟩
  cases k with
  | zero =>
    simp [go_sem]
    refine out_exit ?_
    simp [go_sem]
    refine fin_ex 1 [] (.inl rfl) hι Tryz.results74 ?_
    simp [go_sem]
  | succ k =>
    obtain ⟨c, hc⟩ : ∃ c, s[k]? = some c := ⟨_, List.getElem?_eq_getElem (by omega)⟩
    have hh := hs c (List.mem_of_getElem? hc)
    have hlen : (s.take (k + 1)).length = k + 1 := by simp; omega
    have hget : (s.take (k + 1))[k]? = some c := by rw [List.getElem?_take, if_pos (by omega), hc]
    have hw : IntKind.i64.wrap (((k + 1 : Nat) : Int) - 1) = (k : Int) := by rw [wrapI (by omega)]; omega
    have htt : (s.take (k + 1)).take k = s.take k := by rw [List.take_take]; congr 1; omega
    obtain ⟨t, ht⟩ : ∃ t, t = s.take (k + 1) := ⟨_, rfl⟩
    rw [← ht] at hlen hget htt
    simp only [← ht]
    have hw' : IntKind.i64.wrap (k : Int) = k := wrapI_nat (by omega)
    simp [go_sem, hlen, hw', hget]
    refine ⟨by omega, ?_⟩
    refine call_at [0] (ascii_contains l c) rfl rfl rfl rfl rfl (by simp) (by simp) (by simp [go_sem]; rw [List.getElem?_eq_getElem (by omega)] at hget; cases hget; rfl) (by simp [go_sem]) ?_
    simp [go_sem, hh, hlen, hw', htt]
    refine ⟨by omega, ?_⟩
    refine next_w ⟨k, by omega⟩ (by simp) (by simp [hι]) (by simp [go_sem]) (by simp [go_sem])

set_option maxRecDepth 100000 in
set_option maxHeartbeats 1000000 in
theorem trim_left0 (l : List UInt8) : ACall Tryz.prog 73 [.str [], .ptr 0 0] [.rows 163 1 2 (setB l)] (.str []) [.rows 163 1 2 (setB l)] := by
  refine acall_ex Tryz.func73 (by kernel_rfl) rfl Tryz.ntmps73 (by simp) fun w ok0 ι hι => ?_
  simp [go_sem]
  refine loop_w (γ := Unit) (fun g => ⟨[(0, .str []), (1, .ptr 0 0)], [.rows 163 1 2 (setB l)]⟩) (fun g => 0) () (by simp [hι]) (by simp [go_sem]) (by simp [go_sem]) ?_
  intro _
  simp [go_sem]
  refine out_exit ?_
  simp [go_sem]
  refine fin_ex 1 [] (.inl rfl) hι Tryz.results73 ?_
  simp [go_sem]

set_option maxRecDepth 100000 in
set_option maxHeartbeats 1000000 in
theorem strings_Trim_all (s l : List UInt8) (h0 : s ≠ []) (h1 : 2 ≤ l.length) (h2 : l.length < 100000) (hs : allIn s l) (hl : s.length < 1000000000000) (ha : ∀ b ∈ l, b.toNat < 128) : ACall Tryz.prog 53 [.str s, .str l] [] (.str []) [] := by
  refine acall_ex Tryz.func53 (by kernel_rfl) rfl Tryz.ntmps53 (by simp) fun w ok0 ι hι => ?_
  have h3 : l ≠ [] := by intro h; subst h; simp at h1
  have h4 : ¬ (l.length : Int) = 1 := by omega
  simp [go_sem, h0, h3, h4]
  refine call_pure (make_ascii l ha (by omega)) rfl rfl rfl rfl rfl ?_
  simp [go_sem]
  refine call_at [0] (trim_right s l hs hl) rfl rfl rfl rfl rfl (by simp) (by simp) (by simp [go_sem]) (by simp [go_sem]) ?_
  simp [go_sem]
  refine call_at [0] (trim_left0 l) rfl rfl rfl rfl rfl (by simp) (by simp) (by simp [go_sem]) (by simp [go_sem]) ?_
  simp [go_sem]
  refine fin0 (.inl rfl) hι Tryz.results53 ?_
  simp [go_sem]

def AtoZ : List UInt8 := [65, 66, 67, 68, 69, 70, 71, 72, 73, 74, 75, 76, 77, 78, 79, 80, 81, 82, 83, 84, 85, 86, 87, 88, 89, 90]
def NTSN : List UInt8 := [78, 84, 83, 78]

set_option maxRecDepth 100000 in
set_option maxHeartbeats 1000000 in
theorem wire_Kiss_NTSN : ACall Tryz.prog 38 [.str NTSN] [] (.int .u32 1314149198) [] := by
  refine acall_ex Tryz.func38 (by kernel_rfl) rfl Tryz.ntmps38 (by simp) fun w ok0 ι hι => ?_
  simp [go_sem, NTSN]
  refine call_gd rfl rfl rfl rfl rfl (fun _ => strings_Trim_all NTSN AtoZ (by decide) (by decide) (by decide) (by unfold allIn; decide) (by decide) (by decide)) rfl (by simp [go_sem, NTSN, AtoZ]) ?_
  simp [go_sem]
  refine call_pure (wire_value NTSN (by decide)) rfl rfl rfl rfl rfl ?_
  have : val64 0 NTSN = 1314149198 := by decide
  simp [go_sem, this]
  refine fin0 (.inl rfl) hι Tryz.results38 ?_
  simp [go_sem]
end T1
