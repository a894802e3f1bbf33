/- T7: a part of the proof. -/
import Derived.Test.YtgcggepppeficaaGreatDoorT1
import Derived.Test.YtgcggepppeficaaGreatDoorSxName
set_option linter.all false
set_option linter.unusedVariables false
set_option linter.unnecessarySimpa false
set_option linter.unusedSimpArgs false
set_option linter.unusedSimpArgs false
namespace T1
open Go SX Go.Proofs

structure Fld where
  kind : Int
  body : List UInt8
  deriving DecidableEq
@[go_sem] def Fld.av (f : Fld) : List AV := [.int .i64 f.kind, .str f.body]

/-- The places of the fields of a kind. -/
def fidx (kind : Int) : Nat → List Fld → List Nat
  | _, [] => []
  | i, f :: l => if f.kind = kind then i :: fidx kind (i + 1) l else fidx kind (i + 1) l
theorem fidx_snoc (kind : Int) (f : Fld) : ∀ (l : List Fld) (i : Nat), fidx kind i (l ++ [f]) = fidx kind i l ++ (if f.kind = kind then [i + l.length] else [])
  | [], i => by simp [fidx]
  | g :: l, i => by
    simp only [List.cons_append, fidx, fidx_snoc kind f l (i + 1), List.length_cons]
    rw [show i + 1 + l.length = i + (l.length + 1) by omega]
    split <;> simp
theorem fidx_length (kind : Int) : ∀ (l : List Fld) (i : Nat), (fidx kind i l).length ≤ l.length
  | [], i => by simp [fidx]
  | g :: l, i => by simp only [fidx]; have := fidx_length kind l (i + 1); split <;> simp <;> omega

@[go_sem] def intsA (is : List Nat) : List (List AV) := is.map fun (i : Nat) => [AV.int .i64 (i : Int)]

def findSt (l : List Fld) (kind : Int) (k : Nat) : List Nat → St
  | [] => ⟨[(10, .int .i64 k), (9, .int .i64 l.length), (8, .xs 2 (l.map Fld.av)), (1, .int .i64 kind), (5, .nilsl)], [.dead]⟩
  | i :: is => ⟨[(10, .int .i64 k), (9, .int .i64 l.length), (8, .xs 2 (l.map Fld.av)), (1, .int .i64 kind), (5, .own 0 1 0 (is.length + 1))], [.rows 3 1 1 (intsA (i :: is))]⟩

set_option maxRecDepth 100000 in
set_option maxHeartbeats 1000000 in
theorem wire_Find (l : List Fld) (kind : Int) (hl : l.length < 1000000000000) : ACall Tryz.prog 34 [.xs 2 (l.map Fld.av), .int .i64 kind] [] (.xs 1 (intsA (fidx kind 0 l))) [] := by
  refine acall_ex Tryz.func34 (by kernel_rfl) rfl Tryz.ntmps34 (by simp) fun w ok0 ι hι => ?_
  simp [go_sem]
  refine loop_n (γ := { p : Nat × List Nat // p.1 ≤ l.length ∧ p.2 = fidx kind 0 (l.take p.1) }) (fun g => findSt l kind g.1.1 g.1.2) (fun g => l.length - g.1.1) ⟨(0, []), by simp, by simp [fidx]⟩ [0] 0 (by simp [findSt]) (by simp [go_sem]) (by simp [hι]) (by simp) (by simp [go_sem, findSt]) (by simp [go_sem, findSt]) ?_
  rintro ⟨⟨k, is⟩, hk, his⟩
  simp only at hk his ⊢
  have hil : is.length ≤ l.length := by rw [his]; have := fidx_length kind (l.take k) 0; simp at this; omega
  have hs : k < l.length → IntKind.i64.wrap ((k : Int) + 1) = ((k + 1 : Nat) : Int) := fun _ => wrapI_succ (by omega)
  have htake : ∀ f, l[k]? = some f → l.take (k + 1) = l.take k ++ [f] := fun f hf => by rw [List.take_add_one, hf]; rfl
  have hlt' : k ≤ l.length → (l.take k).length = k := fun h => by simp; omega
  cases is with
  | nil =>
    simp [go_sem, findSt]
    refine ⟨fun hlt => ?_, fun hge => ?_⟩
    · obtain ⟨f, hf⟩ : ∃ f, l[k]? = some f := ⟨_, List.getElem?_eq_getElem hlt⟩
      simp [go_sem, hf, hs hlt]
      refine ⟨hlt, fun hk1 => ⟨by simp [maxLen], ?_⟩, fun hk1 => ?_⟩
      · refine next_n ⟨(k + 1, [k]), by omega, by rw [htake f hf, fidx_snoc, ← his, hlt' hk]; simp [hk1]⟩ (by simp; omega) [3] 0 (by simp) (by simp [go_sem]) (by simp [hι]) (by simp) (by simp [go_sem]) (by simp [go_sem])
      · refine next_n ⟨(k + 1, []), by omega, by rw [htake f hf, fidx_snoc, ← his]; simp [hk1]⟩ (by simp; omega) [0] 0 (by simp) (by simp [go_sem]) (by simp [hι]) (by simp) (by simp [go_sem]) (by simp [go_sem])
    · refine out_exit ?_
      simp [go_sem]
      refine fin0 (.inl rfl) hι Tryz.results34 ?_
      simp [go_sem]
      refine Sub.nil ?_
      rw [List.take_of_length_le (by omega)] at his
      simp [← his]
  | cons i is =>
    simp only [List.length_cons] at hil
    simp [go_sem, findSt]
    refine ⟨fun hlt => ?_, fun hge => ?_⟩
    · obtain ⟨f, hf⟩ : ∃ f, l[k]? = some f := ⟨_, List.getElem?_eq_getElem hlt⟩
      simp [go_sem, hf, hs hlt]
      refine ⟨hlt, fun hk1 => ?_, fun hk1 => ?_⟩
      · refine ⟨⟨by simp [maxLen]; omega, by omega⟩, ?_⟩
        refine next_n ⟨(k + 1, i :: (is ++ [k])), by omega, by rw [htake f hf, fidx_snoc, ← his, hlt' hk]; simp [hk1]⟩ (by simp; omega) [3] 0 (by simp) (by simp [go_sem]) (by simp [hι]) (by simp) (by simp [go_sem]) (by simp [go_sem])
      · refine next_n ⟨(k + 1, i :: is), by omega, by rw [htake f hf, fidx_snoc, ← his]; simp [hk1]⟩ (by simp; omega) [0] 0 (by simp) (by simp [go_sem]) (by simp [hι]) (by simp) (by simp [go_sem]) (by simp [go_sem])
    · refine out_exit ?_
      simp [go_sem]
      refine fin0 (.inl rfl) hι Tryz.results34 ?_
      simp [go_sem]
      refine .of_eq ?_
      rw [List.take_of_length_le (by omega)] at his
      rw [← his]
      simp [cellsOfRows, AV.ren]
      exact List.take_of_length_le (by simp)
end T1
