/- T9: a part of the proof. -/
import Derived.Test.YtgcggepppeficaaGreatDoorT8
import Derived.Test.YtgcggepppeficaaGreatDoorSxAtom
set_option linter.all false
set_option linter.unusedVariables false
set_option linter.unnecessarySimpa false
set_option linter.unusedSimpArgs false
set_option linter.unusedSimpArgs false
namespace T1
open Go SX Go.Proofs


theorem st30 : Extern.find Tryz.f30 = some Extern.Atomic.storeT := by kernel_rfl

theorem st31 : Extern.find Tryz.f31 = some (Extern.Atomic.update (Op.intArith .add) .u64 true) := by kernel_rfl
theorem st32 : Extern.find Tryz.f32 = some (Extern.Atomic.loadT (.int .u64)) := by kernel_rfl
theorem set_nn {cs : List AV} {o : Nat} {k : IntKind} {y : Int} (hc : cs.all nn = true) : (cs.set o (.int k y)).all nn = true := by
  rw [List.all_eq_true] at hc ⊢
  intro z hz
  rcases List.mem_or_eq_of_mem_set hz with h1 | h1
  · exact hc z h1
  · subst h1; rfl

set_option maxRecDepth 100000 in
set_option maxHeartbeats 1000000 in
theorem u64_Store (T : TypeId) (cs : List AV) (o : Nat) (x : AV) (y : Int) (h : cs[o]? = some x) (hc : cs.all nn = true) : ACall Tryz.prog 16 [.ptr 0 o, .int .u64 y] [.box T cs] (.tup []) [.box T (cs.set o (.int .u64 y))] := by
  refine acall_ex Tryz.func16 (by kernel_rfl) rfl Tryz.ntmps16 (by simp) fun w ok0 ι hι => ?_
  simp [go_sem]
  refine ext_ex rfl rfl rfl rfl (atom_store Tryz.func30 (by kernel_rfl) rfl (by kernel_rfl) st30 rfl h) ?_
  simp [go_sem]
  have hc' := set_nn (o := o) (k := .u64) (y := y) hc
  refine fin_ex 1 [] (.inr rfl) hι Tryz.results16 ?_
  simp [go_sem, pubL_n hc', pubVL_n hc', renL_n hc']

set_option maxRecDepth 100000 in
set_option maxHeartbeats 1000000 in
theorem u64_Add (T : TypeId) (cs : List AV) (o : Nat) (x y : Int) (h : cs[o]? = some (.int .u64 x)) (hc : cs.all nn = true) : ACall Tryz.prog 18 [.ptr 0 o, .int .u64 y] [.box T cs] (.int .u64 (IntKind.u64.wrap (x + y))) [.box T (cs.set o (.int .u64 (IntKind.u64.wrap (x + y))))] := by
  refine acall_ex Tryz.func18 (by kernel_rfl) rfl Tryz.ntmps18 (by simp) fun w ok0 ι hι => ?_
  simp [go_sem]
  refine ext_ex rfl rfl rfl rfl (atom_add Tryz.func31 (by kernel_rfl) rfl (by kernel_rfl) st31 rfl h) ?_
  simp [go_sem]
  have hc' := set_nn (o := o) (k := .u64) (y := IntKind.u64.wrap (x + y)) hc
  refine fin_ex 1 [] (.inl rfl) hι Tryz.results18 ?_
  simp [go_sem, pubL_n hc', pubVL_n hc', renL_n hc']

set_option maxRecDepth 100000 in
set_option maxHeartbeats 1000000 in
theorem u64_Load (T : TypeId) (cs : List AV) (o : Nat) (x : Int) (h : cs[o]? = some (.int .u64 x)) (hc : cs.all nn = true) : ACall Tryz.prog 19 [.ptr 0 o] [.box T cs] (.int .u64 x) [.box T cs] := by
  refine acall_ex Tryz.func19 (by kernel_rfl) rfl Tryz.ntmps19 (by simp) fun w ok0 ι hι => ?_
  simp [go_sem]
  refine ext_ex rfl rfl rfl rfl (atom_load Tryz.func32 (by kernel_rfl) rfl (by kernel_rfl) st32 rfl h) ?_
  simp [go_sem]
  refine fin_ex 1 [] (.inl rfl) hι Tryz.results19 ?_
  simp [go_sem, pubL_n hc, pubVL_n hc, renL_n hc]
end T1
