/- SX: states, a region's run, and the rules of control. -/
import Derived.Test.YtgcggepppeficaaGreatDoorSxDoes
set_option linter.all false
set_option linter.unusedVariables false
set_option linter.unnecessarySimpa false
set_option linter.unusedSimpArgs false
namespace SX
open Go

/-- A state: what the slots hold (the last said first), and the own blocks. -/
structure St where
  tm : List (Nat × AV)
  hp : List Blk

def gtm : List (Nat × AV) → Nat → AV
  | [], _ => .any
  | (s, x) :: r, t => if s = t then x else gtm r t

def St.ev (S : St) : Operand → AV
  | .tmp t => gtm S.tm t
  | .const v => cv v
  | .global _ => .any
  | .func f => .func (.func f) [] []

/-- A frame that stands by while another runs. -/
structure Sus where
  act : Act
  tm : List (Nat × AV)

/-- Where a proof stands: the program, the frame's slots, the world at the call, what the caller lets; its deferred calls' marks, the frames that stand by, the names whose blocks are told. -/
structure Ctx where
  P : Program
  rd : Option Nat
  N : Nat
  wc : World
  ok0 : Nat → Prop
  ι0 : Names'
  df : List Deferred := []
  sus : List Sus := []
  pin : List (Nat × Nat) := []

def Ctx.fp (C : Ctx) : List Nat := C.ι0.map (·.1)
def Ctx.F (C : Ctx) : Fence := { Fence.wide with round := C.rd }
def Ctx.n (_ : Ctx) : Nat := 0
theorem Ctx.hF (C : Ctx) (f : FuncId) : C.F.fn f := trivial

structure Here (C : Ctx) (S : St) (ι : Names') (a : Act) (w : World) : Prop where
  rel : Rel C.wc C.ok0 C.fp ι S.hp w
  tm : ∀ t, Den w (okN C.wc C.ok0 ι S.hp) ι (gtm S.tm t) (a.tmps.getD t undef)
  sz : a.tmps.size = C.N
  df : a.defers = C.df
  pre : Carried id C.ι0 ι
  sus : ∀ s ∈ C.sus, ∀ t, Den w (okN C.wc C.ok0 ι S.hp) ι (gtm s.tm t) (s.act.tmps.getD t undef)
  pin : ∀ p ∈ C.pin, ∃ c, ι[p.1]? = some (p.2, c)

theorem Here.ev {C : Ctx} {S : St} {ι : Names'} {a : Act} {w : World} (hh : Here C S ι a w) (x : Operand) : Den w (okN C.wc C.ok0 ι S.hp) ι (S.ev x) (a.eval x) := by
  cases x with
  | tmp t => exact hh.tm t
  | const v => exact den_cv _ _ _ _
  | global g => trivial
  | func f => exact ⟨[], [], rfl, rfl, rfl⟩

/-- A slot is written. -/
def putTm (tm : List (Nat × AV)) : Option Tmp → AV → List (Nat × AV)
  | some d, x => (d, x) :: tm
  | none, _ => tm

def dstOk (N : Nat) : Option Tmp → Bool
  | some d => decide (d < N)
  | none => true

theorem Here.put {C : Ctx} {S : St} {ι ι' : Names'} {a : Act} {w w' : World} {h' : List Blk} {x : AV} {v : Value} {dst : Option Tmp} (hh : Here C S ι a w) (hr : Rel C.wc C.ok0 C.fp ι' h' w')
    (hk : Keeps w (okN C.wc C.ok0 ι S.hp) w' (okN C.wc C.ok0 ι' h')) (hc : Carried id ι ι') (hd : Den w' (okN C.wc C.ok0 ι' h') ι' x v) (hdst : dstOk C.N dst = true) :
    Here C ⟨putTm S.tm dst x, h'⟩ ι' (a.put dst v) w' := by
  refine ⟨hr, fun t => ?_, ?_, ?_, fun n b h => hc _ _ (hh.pre n b h), fun s hs t => (hh.sus s hs t).keep' hk hc, fun p hp => let ⟨c, h⟩ := hh.pin p hp; ⟨c, hc _ _ h⟩⟩
  · have hold := (hh.tm t).keep' hk hc
    cases dst with
    | none => exact hold
    | some d =>
      simp only [dstOk, decide_eq_true_eq] at hdst
      simp only [putTm, gtm, Act.put]
      by_cases e : d = t
      · subst e
        simp only [if_true]
        have : (a.tmps.setIfInBounds d v).getD d undef = v := by
          rw [← hh.sz] at hdst
          simp [Array.getD, hdst]
        rw [this]; exact hd
      · rw [if_neg e]
        have : (a.tmps.setIfInBounds d v).getD t undef = a.tmps.getD t undef := by
          simp [Array.getElem?_setIfInBounds_ne e]
        rw [this]; exact hold
  · cases dst with
    | none => exact hh.sz
    | some d => simp [Act.put, hh.sz]
  · cases dst with
    | none => exact hh.df
    | some d => exact hh.df

theorem Here.undef {C : Ctx} {S : St} {ι : Names'} {a : Act} {w : World} {x : AV} {dst : Option Tmp} (hh : Here C S ι a w) (hd : Den w (okN C.wc C.ok0 ι S.hp) ι x undef) (hdst : dstOk C.N dst = true) :
    Here C ⟨putTm S.tm dst x, S.hp⟩ ι (a.put dst undef) w := hh.put hh.rel (Keeps.refl _ _) (carried_refl _) hd hdst

/-- What a code's end is asked. -/
abbrev Kont := Exit → Act → World → Prop

def AE (C : Ctx) (e : Exit) (k : Kont) (S : St) : Prop := ∀ ι a w, Here C S ι a w → k e a w
def AR (C : Ctx) (c : Code) (k : Kont) (S : St) : Prop := ∀ ι a w, Here C S ι a w → c.wpIn C.F C.n C.P k a w

def kseq (C : Ctx) (y : Code) (k : Kont) : Kont := Exit.then (y.wpIn C.F C.n C.P k) k
def kblock (id : Nat) (k : Kont) : Kont := Exit.inBlock id k

section
variable {C : Ctx} {S : St} {k : Kont}

theorem AR_seq {x y : Code} (h : AR C x (kseq C y k) S) : AR C (.seq x y) k S := fun ι a w hh => wpIn_seq (h ι a w hh)
theorem AR_skip (h : AE C .normal k S) : AR C .skip k S := fun ι a w hh => wpIn_skip (h ι a w hh)
theorem AR_label {l : Nat} (h : AE C .normal k S) : AR C (.label l) k S := fun ι a w hh => wpIn_label (h ι a w hh)
theorem AR_exit {id : Nat} (h : AE C (.exit id) k S) : AR C (.exit id) k S := fun ι a w hh => wpIn_exit (h ι a w hh)
theorem AR_ret (h : AE C .ret k S) : AR C .ret k S := fun ι a w hh => wpIn_ret (h ι a w hh)
theorem AR_block {id : Nat} {c : Code} (h : AR C c (kblock id k) S) : AR C (.block id c) k S := fun ι a w hh => wpIn_block (h ι a w hh)

/-- A truth value. -/
def boolOf : AV → Option Bool
  | .bool b => some b
  | _ => none

theorem AR_cond {c : Operand} {x y : Code} {b : Bool} (hc : boolOf (S.ev c) = some b) (ht : b = true → AR C x k S) (hf : b = false → AR C y k S) : AR C (.cond c x y) k S := by
  intro ι a w hh
  have he := hh.ev c
  cases hx : S.ev c <;> rw [hx] at hc he <;> simp only [boolOf, reduceCtorEq, Option.some.injEq] at hc
  subst hc
  simp only [Den] at he
  exact wpIn_cond_split he (fun e => ht e ι a w hh) (fun e => hf e ι a w hh)

theorem AE_seq {y : Code} (h : AR C y k S) : AE C .normal (kseq C y k) S := fun ι a w hh => h ι a w hh
theorem AE_seq_ret {y : Code} (h : AE C .ret k S) : AE C .ret (kseq C y k) S := fun ι a w hh => h ι a w hh
theorem AE_seq_exit {y : Code} {id : Nat} (h : AE C (.exit id) k S) : AE C (.exit id) (kseq C y k) S := fun ι a w hh => h ι a w hh
theorem AE_block {id : Nat} (h : AE C .normal k S) : AE C .normal (kblock id k) S := fun ι a w hh => h ι a w hh
theorem AE_block_ret {id : Nat} (h : AE C .ret k S) : AE C .ret (kblock id k) S := fun ι a w hh => h ι a w hh
theorem AE_block_exit {id : Nat} (h : AE C .normal k S) : AE C (.exit id) (kblock id k) S := fun ι a w hh => by
  show Exit.inBlock id k (.exit id) a w
  simp only [Exit.inBlock, if_true]; exact h ι a w hh
theorem AE_block_exit' {id id' : Nat} (hne : id' ≠ id) (h : AE C (.exit id') k S) : AE C (.exit id') (kblock id k) S := fun ι a w hh => by
  show Exit.inBlock id k (.exit id') a w
  simp only [Exit.inBlock, if_neg hne]; exact h ι a w hh

/-- A loop: the states that its rounds begin in, by a ghost; a measure of it. -/
def kloop (C : Ctx) {γ : Type} (I : γ → St) (μ : γ → Nat) (g : γ) (k : Kont) : Kont :=
  Exit.then (fun a w => ∃ g' ι', μ g' < μ g ∧ Here C (I g') ι' a w) k

theorem AR_loop {c : Code} {γ : Type} (I : γ → St) (μ : γ → Nat) (g0 : γ) (h0 : ∀ ι a w, Here C S ι a w → ∃ ι', Here C (I g0) ι' a w)
    (round : ∀ g, AR C c (kloop C I μ g k) (I g)) : AR C (.loop c) k S := by
  intro ι a w hh
  obtain ⟨ι0, hh0⟩ := h0 ι a w hh
  classical
  let Inv : Nat → Act → World → Prop := fun m a w => ∃ g ι, μ g = m ∧ Here C (I g) ι a w
  -- the least measure of a ghost that fits
  have key : ∀ a w, (∃ m, Inv m a w) → ∃ m, Inv m a w ∧ ∀ m', Inv m' a w → m ≤ m' := by
    intro a w ⟨m, hm⟩
    induction m using Nat.strongRecOn with
    | _ m ih =>
      by_cases hlt : ∃ m' < m, Inv m' a w
      · obtain ⟨m', hlt, hm'⟩ := hlt; exact ih m' hlt hm'
      · exact ⟨m, hm, fun m' hm' => by
          rcases Nat.lt_or_ge m' m with h1 | h1
          · exact absurd ⟨m', h1, hm'⟩ hlt
          · exact h1⟩
  refine wpIn_loop (fun a w => ∃ m, Inv m a w) (fun a w => if hx : ∃ m, Inv m a w then (key a w hx).choose else 0) ⟨_, g0, ι0, rfl, hh0⟩ ?_
  intro a w hx
  have hc := (key a w hx).choose_spec
  obtain ⟨g, ι1, hg, hhg⟩ := hc.1
  refine wpIn_mono (round g ι1 a w hhg) ?_
  intro e a' w' hk
  cases e with
  | normal =>
    obtain ⟨g', ι', hlt, hh'⟩ := hk
    have hx' : ∃ m, Inv m a' w' := ⟨μ g', g', ι', rfl, hh'⟩
    refine ⟨hx', ?_⟩
    simp only [dif_pos hx, dif_pos hx']
    have := (key a' w' hx').choose_spec.2 (μ g') ⟨g', ι', rfl, hh'⟩
    omega
  | _ => exact hk

theorem AE_loop {γ : Type} {I : γ → St} {μ : γ → Nat} {g : γ} (g' : γ) (hlt : μ g' < μ g) (h : ∀ ι a w, Here C S ι a w → ∃ ι', Here C (I g') ι' a w) : AE C .normal (kloop C I μ g k) S := by
  intro ι a w hh
  obtain ⟨ι', hh'⟩ := h ι a w hh
  exact ⟨g', ι', hlt, hh'⟩
theorem AE_loop_ret {γ : Type} {I : γ → St} {μ : γ → Nat} {g : γ} (h : AE C .ret k S) : AE C .ret (kloop C I μ g k) S := fun ι a w hh => h ι a w hh
theorem AE_loop_exit {γ : Type} {I : γ → St} {μ : γ → Nat} {g : γ} {id : Nat} (h : AE C (.exit id) k S) : AE C (.exit id) (kloop C I μ g k) S := fun ι a w hh => h ι a w hh
end
end SX
