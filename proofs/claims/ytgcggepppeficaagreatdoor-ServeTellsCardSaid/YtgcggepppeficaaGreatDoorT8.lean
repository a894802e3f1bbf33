/- T8: a part of the proof. -/
import Derived.Test.YtgcggepppeficaaGreatDoorT7
import Derived.Test.YtgcggepppeficaaGreatDoorT5
set_option linter.all false
set_option linter.unusedVariables false
set_option linter.unnecessarySimpa false
set_option linter.unusedSimpArgs false
set_option linter.unusedSimpArgs false
namespace T1
open Go SX Go.Proofs
attribute [local go_sem] fe52

set_option maxRecDepth 100000 in
set_option maxHeartbeats 1000000 in
theorem ref24_New (key : List UInt8) (now : Int) (hk : key.length = 32) : ACall Tryz.prog 9 [.str key, .int .i64 now] [] (.tup [Ring.av ⟨[⟨1, key, now⟩], 2⟩, .int .i64 0]) [] := by
  refine acall_ex Tryz.func9 (by kernel_rfl) rfl Tryz.ntmps9 (by simp) fun w ok0 ι hι => ?_
  simp [go_sem, hk]
  refine fin0 (.inl rfl) hι Tryz.results9 ?_
  simp [go_sem]

set_option maxRecDepth 100000 in
set_option maxHeartbeats 1000000 in
theorem ring_Find1 (k : Rkey) (id : Int) : ACall Tryz.prog 63 [.agg k.av, .ptr 0 0] [.box 23 [.int .u32 id]] (.bool (k.id == id)) [.box 23 [.int .u32 id]] := by
  refine acall_ex Tryz.func63 (by kernel_rfl) rfl Tryz.ntmps63 (by simp) fun w ok0 ι hι => ?_
  simp [go_sem]
  refine fin_ex 1 [] (.inl rfl) hι Tryz.results63 ?_
  simp [go_sem]

/-- A key's place, or -1. -/
def keyAt (id : Int) : Int → List Rkey → Int
  | _, [] => -1
  | i, k :: l => if k.id = id then i else keyAt id (i + 1) l

theorem keyAt_skip (id : Int) : ∀ (l : List Rkey) (i : Int) (k : Nat), k ≤ l.length → (∀ (j : Nat) (x : Rkey), j < k → l[j]? = some x → x.id ≠ id) → keyAt id i l = keyAt id (i + k) (l.drop k)
  | l, i, 0, _, _ => by simp
  | [], i, k + 1, h, _ => by simp at h
  | x :: l, i, k + 1, h, hn => by
    have h0 := hn 0 x (by omega) rfl
    simp only [keyAt, if_neg h0, List.drop_succ_cons]
    rw [keyAt_skip id l (i + 1) k (by simpa using h) fun j y hj hy => hn (j + 1) y (by omega) (by simpa using hy)]
    congr 1; omega

set_option maxRecDepth 100000 in
set_option maxHeartbeats 1000000 in
theorem ring_Index (l : List Rkey) (id : Int) (hl : l.length < 1000000000000) : ACall Tryz.prog 62 [.xs 3 (l.map Rkey.av), .func (.func 63) [] [.ptr 0 0]] [.box 23 [.int .u32 id]] (.int .i64 (keyAt id 0 l)) [.box 23 [.int .u32 id]] := by
  refine acall_ex Tryz.func62 (by kernel_rfl) rfl Tryz.ntmps62 (by simp) fun w ok0 ι hι => ?_
  simp [go_sem]
  refine loop_w (γ := { k : Nat // k ≤ l.length ∧ ∀ (j : Nat) (x : Rkey), j < k → l[j]? = some x → x.id ≠ id }) (fun g => ⟨[(8, .int .i64 g.1), (7, .int .i64 l.length), (0, .xs 3 (l.map Rkey.av)), (1, .func (.func 63) [] [.ptr 0 0])], [.box 23 [.int .u32 id]]⟩) (fun g => l.length - g.1) ⟨0, by simp, by simp⟩ (by simp [hι]) (by simp [go_sem]) (by simp [go_sem]) ?_
  rintro ⟨k, hk, hall⟩
  simp [go_sem]
  refine ⟨fun hlt => ?_, fun hge => ?_⟩
  · obtain ⟨f, hf⟩ : ∃ f, l[k]? = some f := ⟨_, List.getElem?_eq_getElem hlt⟩
    have hs : IntKind.i64.wrap ((k : Int) + 1) = ((k + 1 : Nat) : Int) := wrapI_succ (by omega)
    simp [go_sem, hf]
    refine ⟨hlt, ?_⟩
    refine call_at [0] (ring_Find1 f id) rfl rfl rfl rfl rfl (by simp) (by simp) (by simp [go_sem]) (by simp [go_sem]) ?_
    simp [go_sem, out]
    refine ⟨fun he => ?_, fun he => ?_⟩
    · refine out_ret ?_
      simp [go_sem]
      refine fin_ex 1 [] (.inl rfl) hι Tryz.results62 ?_
      simp [go_sem]
      refine .of_eq ?_
      rw [keyAt_skip id l 0 k hk hall, List.drop_eq_getElem_cons hlt]
      have : l[k] = f := by rw [List.getElem?_eq_getElem hlt] at hf; simpa using hf
      simp [keyAt, this, he]
    · refine next_w ⟨k + 1, by omega, ?_⟩ (by simp; omega) (by simp [hι]) (by simp [go_sem, hs]) (by simp [go_sem])
      intro j x hj hx
      rcases Nat.lt_or_ge j k with h1 | h1
      · exact hall j x h1 hx
      · have : j = k := by omega
        subst this
        rw [hf] at hx; cases hx; exact he
  · refine out_exit ?_
    simp [go_sem]
    refine fin_ex 1 [] (.inl rfl) hι Tryz.results62 ?_
    simp [go_sem]
    refine .of_eq ?_
    rw [keyAt_skip id l 0 l.length (Nat.le_refl _) (fun j x hj hx => hall j x (by omega) hx)]
    simp [keyAt]

set_option maxRecDepth 100000 in
set_option maxHeartbeats 1000000 in
theorem ring_Find (r : Ring) (id : Int) (hl : r.keys.length < 1000000000000) : ACall Tryz.prog 46 [r.av, .int .u32 id] [] (.int .i64 (keyAt id 0 r.keys)) [] := by
  refine acall_ex Tryz.func46 (by kernel_rfl) rfl Tryz.ntmps46 (by simp) fun w ok0 ι hι => ?_
  simp [go_sem]
  refine call_at [1] (ring_Index r.keys id hl) rfl rfl rfl rfl rfl (by simp) (by simp) (by simp [go_sem]) (by simp [go_sem]) ?_
  simp [go_sem, out]
  refine fin0 (.inl rfl) hι Tryz.results46 ?_
  simp [go_sem]
end T1
