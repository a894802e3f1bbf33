/- SX: a region's operations, one behind the other. -/
import Derived.Test.YtgcggepppeficaaGreatDoorSxRun
import Derived.Test.YtgcggepppeficaaGreatDoorSxGrow
import Derived.Test.YtgcggepppeficaaGreatDoorSxEq
import Derived.Test.YtgcggepppeficaaGreatDoorSxMore
set_option linter.all false
set_option linter.unusedVariables false
set_option linter.unnecessarySimpa false
set_option linter.unusedSimpArgs false
namespace SX
open Go

/-- The operations one behind the other, as a list. -/
def wpL (F : Fence) (n : Nat) (P : Program) (ops : Array Oper) (Q : Exit → Act → World → Prop) : List Oper → Act → World → Prop
  | [], a, w => Q .normal a w
  | o :: rest, a, w =>
    if Region.wanted o (yielded ops a.tmps) then o.wpIn F n P a w (wpL F n P ops Q rest) Q
    else (∀ f, o.about P w a.eval = some f → F.fn f) ∧ wpL F n P ops Q rest (a.put o.dst undef) w

theorem wpL_iff {F : Fence} {n : Nat} {P : Program} {ops : Array Oper} {Q : Exit → Act → World → Prop} : ∀ (m k : Nat) (a : Act) (w : World), k + m = ops.size →
    wpL F n P ops Q (ops.toList.drop k) a w → wpOpsIn F n P ops Q (List.range' k m) a w
  | 0, k, a, w, hk, h => by
    have : ops.toList.drop k = [] := List.drop_eq_nil_of_le (by simp; omega)
    rw [this] at h; exact h
  | m + 1, k, a, w, hk, h => by
    have hlt : k < ops.toList.length := by simp; omega
    rw [List.drop_eq_getElem_cons hlt] at h
    simp only [List.range', wpOpsIn]
    have ho : ops[k]? = some ops.toList[k] := by simp [Array.getElem?_eq_getElem (show k < ops.size by omega)]
    simp only [ho]
    simp only [wpL] at h
    have ih : ∀ a w, wpL F n P ops Q (ops.toList.drop (k + 1)) a w → wpOpsIn F n P ops Q (List.range' (k + 1) m) a w := fun a w h => wpL_iff m (k + 1) a w (by omega) h
    split
    · rename_i hw
      rw [if_pos hw] at h
      refine ⟨h.1, ?_⟩
      have h2 := h.2
      revert h2
      generalize (Oper.semAt F.round a.eval ops.toList[k]).run P w = r
      intro h2
      cases r with
      | ok x w' =>
        cases x <;> simp only [Oper.uponIn] at h2 ⊢
        case value v => exact ih _ _ h2
        case skip => exact ih _ _ h2
        case defer d => exact ih _ _ h2
        case enter f args => exact ⟨h2.1, h2.2.mono fun e w'' he => by cases e <;> first | exact ih _ _ he | exact he⟩
        case row r args => exact ⟨h2.1, h2.2.mono fun e w'' he => ih _ _ he⟩
        case round l f tmps as body => exact ⟨h2.1, h2.2.mono fun e w'' he => by cases e <;> first | exact ih _ _ he | exact he⟩
      | halt x w' => cases x <;> simp only [Oper.uponIn] at h2 ⊢ <;> exact h2
    · rename_i hw
      rw [if_neg hw] at h
      exact ⟨h.1, ih _ _ h.2⟩

def AOps (C : Ctx) (ops : Array Oper) (rest : List Oper) (k : Kont) (S : St) : Prop := ∀ ι a w, Here C S ι a w → wpL C.F C.n C.P ops k rest a w

theorem AR_region {C : Ctx} {S : St} {k : Kont} {id : Nat} {ops : Array Oper} (h : AOps C ops ops.toList k S) : AR C (.region id ops false) k S := by
  intro ι a w hh
  refine wpIn_region ?_
  rw [List.range_eq_range']
  exact wpL_iff ops.size 0 a w (by omega) (by simpa using h ι a w hh)

theorem AOps_nil {C : Ctx} {S : St} {k : Kont} {ops : Array Oper} (h : AE C .normal k S) : AOps C ops [] k S := fun ι a w hh => h ι a w hh

/-- What stands behind a guard. -/
def strip : AV → AV
  | .gd _ x => x
  | x => x
def need (pc : Bool) : AV → Prop
  | .gd g _ => pc = true → g = true
  | _ => True

theorem strip_den {w : World} {ok : Nat → Prop} {ι : Names'} {x : AV} {v : Value} {pc : Bool} (hn : need pc x) (hp : pc = true) (h : Den w ok ι x v) : Den w ok ι (strip x) v := by
  cases x <;> first | exact h | exact h.1 (hn hp)

/-- The table's shape of a type. -/
def shOf (P : Program) (t : TypeId) : Option Sh := (tyi P t).map (·.sh)

/-- Built-in functions that leave memory. -/
def builtinA (P : Program) (ev : Operand → AV) (b : Builtin) (args : List Operand) (tys : List TypeId) : Option (AV × Prop) :=
  match b, args, tys with
  | .len, [a], [t] => match tyi P t with
    | some I => match lenA I (ev a) with
      | some n => some (.int .i64 n, True)
      | none => none
    | none => none
  | .min, [a, b], _ => match minmaxA false (ev a) (ev b) with
    | some x => some (x, True)
    | none => none
  | .max, [a, b], _ => match minmaxA true (ev a) (ev b) with
    | some x => some (x, True)
    | none => none
  | _, _, _ => none

def sliceA (I : TyI) (ev : Operand → AV) (hp : List Blk) (a : AV) (lo hi : Option Operand) : Option (AV × Prop) :=
  match I.sh, a with
  | .str, .str s => match boundA s.length (hi.map ev) s.length with
    | some (u, qu) => match boundA u.toNat (lo.map ev) 0 with
      | some (l, ql) => some (.str ((s.take u.toNat).drop l.toNat), qu ∧ ql)
      | none => none
    | none => none
  | .slice _ m _ _, .xs m' s => match boundA s.length (hi.map ev) s.length with
    | some (u, qu) => match boundA u.toNat (lo.map ev) 0 with
      | some (l, ql) => some (.xs m ((s.take u.toNat).drop l.toNat), m' = m ∧ qu ∧ ql)
      | none => none
    | none => none
  | .arr n _ m, .ptr b 0 => match hp[b]? with
    | some (.rows _ m' 2 s) => match boundA n (hi.map ev) n with
      | some (u, qu) => match boundA u.toNat (lo.map ev) 0 with
        | some (l, ql) => some (.own b m l.toNat (u.toNat - l.toNat), m' = m ∧ s.length = n ∧ qu ∧ ql)
        | none => none
      | none => none
    | _ => none
  | .slice _ m _ _, .own n m' o len => sliceOwnA m ev n m' o len lo hi
  | _, _ => none

def isZero : AV → Bool
  | .int _ 0 => true
  | _ => false
def isZeroO : Option AV → Bool
  | some x => isZero x
  | none => true
def isSl : AV → Bool
  | .xs _ _ => true
  | .own _ _ _ _ => true
  | .nilsl => true
  | .zsl => true
  | _ => false
/-- A slice without room: `s[:0:0]`. -/
def sliceZA (I : TyI) (ev : Operand → AV) (a : AV) (lo : Option Operand) (hi mx : Operand) : Option (AV × Prop) :=
  match I.sh with
  | .slice _ _ _ _ => if (isSl a && isZero (ev hi) && isZero (ev mx) && isZeroO (lo.map ev)) = true then some (.zsl, True) else none
  | _ => none

def isU8 (P : Program) (e : TypeId) : Bool :=
  match tyi P e with
  | some K => match K.sh with
    | .int .u8 => true
    | _ => false
  | none => false

theorem isU8_spec {P : Program} {e : TypeId} (h : isU8 P e = true) : ∃ K, tyi P e = some K ∧ K.sh = .int .u8 := by
  unfold isU8 at h
  split at h
  · rename_i K hK
    split at h
    · rename_i hs; exact ⟨K, hK, hs⟩
    · cases h
  · cases h

def convA (P : Program) (hp : List Blk) (J I : TyI) (a : AV) : Option (AV × Prop) :=
  match I.sh, a with
  | .int k', .int _ n => some (.int k' (k'.wrap n), True)
  | .str, .str l => some (.str l, True)
  | .str, .xs m l => match J.sh with
    | .slice e _ _ _ => if isU8 P e = true then toStrA hp (.xs m l) else none
    | _ => none
  | .str, .own n m o len => match J.sh with
    | .slice e _ _ _ => if isU8 P e = true then toStrA hp (.own n m o len) else none
    | _ => none
  | .str, .nilsl => match J.sh with
    | .slice e _ _ _ => if isU8 P e = true then toStrA hp .nilsl else none
    | _ => none
  | .str, .zsl => match J.sh with
    | .slice e _ _ _ => if isU8 P e = true then toStrA hp .zsl else none
    | _ => none
  | _, _ => none

def boolAt (P : Program) (t : TypeId) (a : AV) (r : AV × Prop) : Option (AV × Prop) :=
  match a with
  | .bool _ => match tyi P t with
    | some I => match I.sh with
      | .bool => some r
      | _ => none
    | none => none
  | _ => some r

def indexStrA (I : TyI) (a : AV) (n : Int) : Option (AV × Prop) :=
  match I.sh, a with
  | .str, .str s => some (indexA s n, 0 ≤ n ∧ n < s.length)
  | _, _ => none

def extractA (a : AV) (n : Nat) : Option (AV × Prop) :=
  match a with
  | .tup cs => match cs[n]? with
    | some x => some (x, True)
    | none => none
  | _ => none

def Sh.isIface : Sh → Bool
  | .iface => true
  | _ => false

def aggPair : AV → AV → Option (List AV × List AV)
  | .agg cs, .agg ds => some (cs, ds)
  | _, _ => none

theorem aggPair_spec {a b : AV} {cs ds : List AV} (h : aggPair a b = some (cs, ds)) : a = .agg cs ∧ b = .agg ds := by
  cases a <;> cases b <;> simp only [aggPair, reduceCtorEq, Option.some.injEq, Prod.mk.injEq] at h
  obtain ⟨rfl, rfl⟩ := h
  exact ⟨rfl, rfl⟩

/-- Operations that leave memory and give what their operands say. -/
def quiet0 (P : Program) (ev : Operand → AV) (hp : List Blk) (o : Op) : Option (AV × Prop) :=
  match o with
  | .move a => some (ev a, True)
  | .assign a => some (ev a, True)
  | .pick c a b => pickA (ev c) (ev a) (ev b)
  | .load t a => match tyi P t with
    | some I => loadA hp I (ev a)
    | none => none
  | .nilCheck a => if solid (ev a) = true then some (ev a, True) else none
  | .binOp op t a b _ => match aggPair (ev a) (ev b) with
    | some (cs, ds) => match eqAggA P op t cs ds with
      | some x => some (x, True)
      | none => none
    | none => match binA op (ev a) (ev b) with
      | some r => boolAt P t (ev a) r
      | none => none
  | .unOp op _ a => match unA op (ev a) with
    | some x => some (x, True)
    | none => none
  | .convert s d a => match tyi P s with
    | some J => match tyi P d with
      | some I => convA P hp J I (ev a)
      | none => none
    | none => none
  | .build t ps => match tyi P t with
    | some I => match buildA I (ps.toList.map fun p => (p.1, ev p.2)) with
      | some x => some (x, True)
      | none => none
    | none => none
  | .makeInterface t a => match tyi P t with
    | some I => if I.sh.isIface = true then none else some (.iface t (ev a), True)
    | none => none
  | .makeFunc fn f c => some (.func fn (f.toList.map ev) (c.toList.map ev), True)
  | .fieldAddr t a f => match tyi P t with
    | some I => match fieldAddrA I f (ev a) with
      | some x => some (x, True)
      | none => none
    | none => none
  | .indexAddr t a i => match tyi P t with
    | some I => match ev i with
      | .int _ n => indexAddrA I (ev a) n
      | _ => none
    | none => none
  | .index t a i => match tyi P t with
    | some I => match ev i with
      | .int _ n => indexStrA I (ev a) n
      | _ => none
    | none => none
  | .extract a n => extractA (ev a) n
  | .slice t a lo hi mx => match mx with
    | none => match tyi P t with
      | some I => sliceA I ev hp (ev a) lo hi
      | none => none
    | some mx => match hi with
      | some hi => match tyi P t with
        | some I => sliceZA I ev (ev a) lo hi mx
        | none => none
      | none => none
  | .call c => match c.callee with
    | .builtin b => builtinA P ev b c.args.toList c.argTypes.toList
    | _ => none
  | _ => none

def quietOp (P : Program) (ev : Operand → AV) (hp : List Blk) (o : Op) : Option (AV × Prop) :=
  match quiet0 P ev hp o with
  | some r => some r
  | none => moreOp P ev hp o

section
variable {P : Program} {ρ : Operand → Value} {o : Oper} {wc : World} {ok0 : Nat → Prop} {fp : List Nat} {ι : Names'} {h h' : List Blk} {w w' : World} {x : AV} {v : Value}

theorem does_quiet0 (ev : Operand → AV) (hev : ∀ x, Den w (okN wc ok0 ι h) ι (ev x) (ρ x)) (hr : Rel wc ok0 fp ι h w) {p : Prop} (hl : quiet0 P ev h o.op = some (x, p)) (hp : p) : Does P ρ o wc ok0 fp ι h w x h := by
  cases ho : o.op <;> rw [ho] at hl <;> simp only [quiet0, reduceCtorEq] at hl
  case move a => cases hl; exact does_move (.inl ho) hr (hev a)
  case assign a => cases hl; exact does_move (.inr ho) hr (hev a)
  case pick c a b => exact does_pick ho hr (hev c) (hev a) (hev b) hl hp
  case load t a =>
    split at hl
    · rename_i I hI; exact does_load ho hI hr (hev a) hl hp
    · cases hl
  case nilCheck a =>
    split at hl
    · rename_i hs; cases hl; exact does_nilCheck ho hr (hev a) hs
    · cases hl
  case binOp op t a b yt =>
    split at hl
    · rename_i cs ds hpair
      obtain ⟨e1, e2⟩ := aggPair_spec hpair
      split at hl
      · rename_i y hy; cases hl
        exact does_eqAgg ho hr (by rw [← e1]; exact hev a) (by rw [← e2]; exact hev b) hy
      · cases hl
    split at hl
    · rename_i r hb
      have hr' : some r = some (x, p) ∧ (∀ c, ev a = .bool c → P.underlying t = some .bool) := by
        unfold boolAt at hl
        split at hl
        · rename_i c hc
          split at hl
          · rename_i I hI
            split at hl
            · rename_i hsh; exact ⟨hl, fun _ _ => (tyi_plain hI).2.1 hsh⟩
            · cases hl
          · cases hl
        · rename_i hne
          exact ⟨hl, fun c hc => absurd hc (hne c)⟩
      rw [hr'.1] at hb
      exact does_bin ho hr (hev a) (hev b) hb hp hr'.2
    · cases hl
  case unOp op t a =>
    split at hl
    · rename_i y hy; cases hl; exact does_un ho hr (hev a) hy
    · cases hl
  case convert s d a =>
    split at hl
    · rename_i Is hs
      split at hl
      · rename_i I hd
        unfold convA at hl
        have bytes : ∀ {y : AV} {p' : Prop}, I.sh = .str → ev a = y → (match Is.sh with
            | .slice e _ _ _ => if isU8 P e = true then toStrA h y else none
            | _ => none) = some (x, p') → p' → Does P ρ o wc ok0 fp ι h w x h := by
          intro y p' hk he hl hp
          split at hl
          · rename_i e m by' zr hsh
            split at hl
            · rename_i h8
              exact does_toStr ho hd hk hs ⟨⟨m, by', zr, hsh⟩, (isU8_spec h8).choose_spec⟩ hr (by rw [← he]; exact hev a) hl hp
            · cases hl
          · cases hl
        split at hl
        · rename_i k' k n hk he
          cases hl
          exact does_convInt ho hs hd hk hr (by rw [← he]; exact hev a)
        · rename_i l hk he
          cases hl
          exact does_convStr ho hs hd hk hr (by rw [← he]; exact hev a)
        · rename_i hk he; exact bytes hk he hl hp
        · rename_i hk he; exact bytes hk he hl hp
        · rename_i hk he; exact bytes hk he hl hp
        · rename_i hk he; exact bytes hk he hl hp
        · cases hl
      · cases hl
    · cases hl
  case build t ps =>
    split at hl
    · rename_i I hI
      split at hl
      · rename_i y hy; cases hl; exact does_build ev hev ho hI hr hy
      · cases hl
    · cases hl
  case makeInterface t a =>
    split at hl
    · rename_i I hI
      split at hl
      · cases hl
      · rename_i hne; cases hl
        exact does_makeIface ho hI (fun e => hne (by rw [e]; rfl)) hr (hev a)
    · cases hl
  case makeFunc fn f c => cases hl; exact does_makeFunc ev hev ho hr
  case fieldAddr t a f =>
    split at hl
    · rename_i I hI
      split at hl
      · rename_i y hy; cases hl; exact does_fieldAddr ho hI hr (hev a) hy
      · cases hl
    · cases hl
  case indexAddr t a i =>
    split at hl
    · rename_i I hI
      split at hl
      · rename_i k n hi
        exact does_indexAddr (k := k) ho hI hr (hev a) (by rw [← hi]; exact hev i) hl hp
      · cases hl
    · cases hl
  case index t a i =>
    split at hl
    · rename_i I hI
      split at hl
      · rename_i k n hi
        unfold indexStrA at hl
        split at hl
        · rename_i s hsh ha; cases hl
          exact does_indexStr (k := k) ho hI hsh hr (by rw [← ha]; exact hev a) (by rw [← hi]; exact hev i) hp.1 hp.2
        · cases hl
      · cases hl
    · cases hl
  case extract a n =>
    unfold extractA at hl
    split at hl
    · rename_i cs ha
      split at hl
      · rename_i y hy; cases hl; exact does_extract ho hr (by rw [← ha]; exact hev a) hy
      · cases hl
    · cases hl
  case slice t a lo hi mx =>
    split at hl
    · split at hl
      · rename_i I hI
        unfold sliceA at hl
        split at hl
        · rename_i s hsh ha
          split at hl
          · rename_i u qu hu
            split at hl
            · rename_i l ql hlo; cases hl
              exact does_sliceStr ev hev ho hI hsh hr (by rw [← ha]; exact hev a) hu hlo hp.1 hp.2
            · cases hl
          · cases hl
        · rename_i e m by' zr m' s hsh ha
          split at hl
          · rename_i u qu hu
            split at hl
            · rename_i l ql hlo; cases hl
              exact does_sliceXs ev hev ho hI hsh hr (by rw [← ha]; exact hev a) hp.1 hu hlo hp.2.1 hp.2.2
            · cases hl
          · cases hl
        · rename_i n e m b hsh ha
          split at hl
          · rename_i e' m' s hb
            split at hl
            · rename_i u qu hu
              split at hl
              · rename_i l ql hlo; cases hl
                exact does_sliceArr ev hev ho hI hsh hr (by rw [← ha]; exact hev a) hb hp.1 hp.2.1 hu hlo hp.2.2.1 hp.2.2.2
              · cases hl
            · cases hl
          · cases hl
        · rename_i e m by' zr n m' o' len hsh ha
          exact does_sliceOwn ev hev ho hI hsh hr (by rw [← ha]; exact hev a) hl hp
        · cases hl
      · cases hl
    · rename_i mx
      split at hl
      · rename_i hi
        split at hl
        · rename_i I hI
          unfold sliceZA at hl
          split at hl
          · rename_i e m by' zr hsh
            split at hl
            · rename_i hc; cases hl
              simp only [Bool.and_eq_true] at hc
              obtain ⟨⟨⟨c1, c2⟩, c3⟩, c4⟩ := hc
              have iz : ∀ y, isZero (ev y) = true → ∃ k, ρ y = .int k 0 := by
                intro y hy
                have := hev y
                unfold isZero at hy
                split at hy
                · rename_i k he; rw [he] at this; exact ⟨k, this⟩
                · cases hy
              refine does_sliceZero (xa := .any) ho ?_ (iz _ c2) (iz _ c3) hI hsh hr ?_
              · intro y hy; subst hy; exact iz _ (by simpa [isZeroO] using c4)
              · have := hev a
                unfold isSl at c1
                split at c1
                · rename_i he; rw [he] at this; obtain ⟨a0, cap, e, _⟩ := this; exact ⟨_, _, _, e⟩
                · rename_i he; rw [he] at this; obtain ⟨_, _, _, _, _, _, e⟩ := this; exact ⟨_, _, _, e⟩
                · rename_i he; rw [he] at this; exact ⟨_, _, _, this⟩
                · rename_i he; rw [he] at this; obtain ⟨a0, e⟩ := this; exact ⟨_, _, _, e⟩
                · cases c1
            · cases hl
          · cases hl
        · cases hl
      · cases hl
  case call c =>
    obtain ⟨callee, args, tys⟩ := c
    simp only at hl
    split at hl
    · rename_i b hb
      unfold builtinA at hl
      split at hl
      · rename_i a t ha ht
        split at hl
        · rename_i I hI
          split at hl
          · rename_i n hn; cases hl
            have e1 : args = #[a] := by rw [← Array.toList_inj]; exact ha
            have e2 : tys = #[t] := by rw [← Array.toList_inj]; exact ht
            subst e1; subst e2
            exact does_len (ty := 0) ho hI hr (hev a) hn
          · cases hl
        · cases hl
      · rename_i a1 a2 ha
        split at hl
        · rename_i y hy; cases hl
          have e1 : args = #[a1, a2] := by rw [← Array.toList_inj]; exact ha
          subst e1
          exact does_minmax (mx := false) ho hr (hev _) (hev _) hy
        · cases hl
      · rename_i a1 a2 ha
        split at hl
        · rename_i y hy; cases hl
          have e1 : args = #[a1, a2] := by rw [← Array.toList_inj]; exact ha
          subst e1
          exact does_minmax (mx := true) ho hr (hev _) (hev _) hy
        · cases hl
      · cases hl
    · cases hl

theorem does_quiet (ev : Operand → AV) (hev : ∀ x, Den w (okN wc ok0 ι h) ι (ev x) (ρ x)) (hr : Rel wc ok0 fp ι h w) {p : Prop} (hl : quietOp P ev h o.op = some (x, p)) (hp : p) : Does P ρ o wc ok0 fp ι h w x h := by
  unfold quietOp at hl
  split at hl
  · rename_i r hq
    simp only [Option.some.injEq] at hl
    subst hl
    exact does_quiet0 ev hev hr hq hp
  · exact does_more ev hev hr hl hp

/-- Operations that turn own blocks. -/
def loud0 (P : Program) (ev : Operand → AV) (hp : List Blk) (o : Op) : Option (AV × List Blk × Prop) :=
  match o with
  | .alloc t => match tyi P t with
    | some I => match varBlk t I I.zero with
      | some b => some (.ptr hp.length 0, hp ++ [b], True)
      | none => none
    | none => none
  | .box t a => match tyi P t with
    | some I => match cellsA (ev a) with
      | some cs => match varBlk t I cs with
        | some b => some (.ptr hp.length 0, hp ++ [b], True)
        | none => none
      | none => none
    | none => none
  | .store t a x => match tyi P t with
    | some I => match cellsA (ev x) with
      | some vs => match storeA hp I (ev a) vs with
        | some (hp', p) => some (.any, hp', p)
        | none => none
      | none => none
    | none => none
  | .makeSlice t a b => match tyi P t with
    | some I => match ev a, ev b with
      | .int _ l, .int _ c => makeA hp I l c
      | _, _ => none
    | none => none
  | .buildSlice t n ps => match tyi P t with
    | some I => match buildSliceA hp I n (ps.toList.map fun p => (p.1, ev p.2)) with
      | some (x, hp') => some (x, hp', True)
      | none => none
    | none => none
  | .convert s d a => match tyi P s with
    | some J => match tyi P d with
      | some I => match J.sh, I.sh, ev a with
        | .str, .slice e _ _ _, .str l => if isU8 P e = true then toBytesA hp I l else none
        | _, _, _ => none
      | none => none
    | none => none
  | .call c => match c.callee with
    | .builtin .append => match c.args.toList, c.argTypes.toList with
      | [a, b], [t, u] => match tyi P t with
        | some I => if t = u then appendA hp I (ev a) (ev b) else match ev b with
          | .str s => match tyi P u with
            | some J => appendStrA hp I J (ev a) s
            | none => none
          | _ => none
        | none => none
      | _, _ => none
    | _ => none
  | _ => none

def loudOp (P : Program) (ev : Operand → AV) (hp : List Blk) (o : Op) : Option (AV × List Blk × Prop) :=
  match loud0 P ev hp o with
  | some r => some r
  | none => moreLoud P ev hp o

theorem does_loud0 (ev : Operand → AV) (hev : ∀ x, Den w (okN wc ok0 ι h) ι (ev x) (ρ x)) (hr : Rel wc ok0 fp ι h w) {p : Prop} (hl : loud0 P ev h o.op = some (x, h', p)) (hp : p) : Does P ρ o wc ok0 fp ι h w x h' := by
  cases ho : o.op <;> rw [ho] at hl <;> simp only [loud0, reduceCtorEq] at hl
  case alloc t =>
    split at hl
    · rename_i I hI
      split at hl
      · rename_i b hb; cases hl; exact does_alloc ho hI hr hb
      · cases hl
    · cases hl
  case box t a =>
    split at hl
    · rename_i I hI
      split at hl
      · rename_i cs hcs
        split at hl
        · rename_i b hb; cases hl; exact does_box ho hr (hev a) hcs hb
        · cases hl
      · cases hl
    · cases hl
  case store t a y =>
    split at hl
    · rename_i I hI
      split at hl
      · rename_i vs hvs
        split at hl
        · rename_i hp' q hs; cases hl; exact does_store ho hI hr (hev a) (hev y) hvs hs hp
        · cases hl
      · cases hl
    · cases hl
  case makeSlice t a b =>
    split at hl
    · rename_i I hI
      split at hl
      · rename_i k l k' c h1 h2
        exact does_makeSlice ho hI hr (by rw [← h1]; exact hev a) (by rw [← h2]; exact hev b) hl hp
      · cases hl
    · cases hl
  case buildSlice t n ps =>
    split at hl
    · rename_i I hI
      split at hl
      · rename_i y hp' hy; cases hl; exact does_buildSlice ev hev ho hI hr hy
      · cases hl
    · cases hl
  case convert s d a =>
    split at hl
    · rename_i J hJ
      split at hl
      · rename_i I hI
        split at hl
        · rename_i e m by' zr l hst hsh hs
          split at hl
          · rename_i h8
            exact does_toBytes ho hJ hst hI ⟨⟨m, by', zr, hsh⟩, (isU8_spec h8).choose_spec⟩ hr (by rw [← hs]; exact hev a) hl hp
          · cases hl
        · cases hl
      · cases hl
    · cases hl
  case call c =>
    obtain ⟨callee, args, tys⟩ := c
    simp only at hl
    split at hl
    · split at hl
      · rename_i a b t u ha ht
        have e1 : args = #[a, b] := by rw [← Array.toList_inj]; exact ha
        have e2 : tys = #[t, u] := by rw [← Array.toList_inj]; exact ht
        subst e1; subst e2
        split at hl
        · rename_i I hI
          split at hl
          · rename_i htu; subst htu
            exact does_append ho hI hr (hev a) (hev b) hl hp
          · split at hl
            · rename_i s hs
              split at hl
              · rename_i J hJ
                exact does_appendStr ho hI hJ hr (hev a) (by rw [← hs]; exact hev b) hl hp
              · cases hl
            · cases hl
        · cases hl
      · cases hl
    · cases hl

theorem does_loud (ev : Operand → AV) (hev : ∀ x, Den w (okN wc ok0 ι h) ι (ev x) (ρ x)) (hr : Rel wc ok0 fp ι h w) {p : Prop} (hl : loudOp P ev h o.op = some (x, h', p)) (hp : p) : Does P ρ o wc ok0 fp ι h w x h' := by
  unfold loudOp at hl
  split at hl
  · rename_i r hq
    simp only [Option.some.injEq] at hl
    subst hl
    exact does_loud0 ev hev hr hq hp
  · exact does_moreLoud ev hev hr hl hp
end

/-- A call of a Go function: the run stops there. -/
def isCall : Op → Bool
  | .call { callee := .builtin _, .. } => false
  | .call _ => true
  | .defer _ => true
  | .panic _ => true
  | _ => false

/-- The road on which an operation is carried out. -/
def roadOf (ops : List Oper) (ev : Operand → AV) (o : Oper) : Option Bool :=
  match o.guard with
  | none => some true
  | some (j, want) => match ops[j]? with
    | some oj => match oj.dst with
      | some t => match ev (.tmp t) with
        | .bool b => some (b == want)
        | .gd g (.bool b) => some (g && (b == want))
        | _ => none
      | none => none
    | none => none

/-- What an operation's operands need on its road. -/
def needs (pc : Bool) (ev : Operand → AV) : List Operand → Prop
  | [] => True
  | a :: l => need pc (ev a) ∧ needs pc ev l

/-- An operation on a road. -/
def quietG (P : Program) (pc : Bool) (ev : Operand → AV) (hp : List Blk) (o : Op) : Option (AV × Prop) :=
  match o with
  | .pick c a b => match pickA (strip (ev c)) (ev a) (ev b) with
    | some (x, p) => some (x, (pc = true → p) ∧ need pc (ev c))
    | none => none
  | o => match quietOp P (fun a => strip (ev a)) hp o with
    | some (x, p) => some (x, (pc = true → p) ∧ needs pc ev o.operands.toList)
    | none => none

/-- A region's operations, up to the first call; E: what is asked behind the last. -/
def run (C : Ctx) (ops : Array Oper) (k : Kont) (E : St → Prop) : List Oper → St → Prop
  | [], S => E S
  | o :: rest, S =>
    if isCall o.op = true then AOps C ops (o :: rest) k S else
    match o.guard with
    | none => match quietOp C.P S.ev S.hp o.op with
      | some (x, p) => dstOk C.N o.dst = true ∧ p ∧ run C ops k E rest ⟨putTm S.tm o.dst x, S.hp⟩
      | none => match loudOp C.P S.ev S.hp o.op with
        | some (x, hp', p) => dstOk C.N o.dst = true ∧ p ∧ run C ops k E rest ⟨putTm S.tm o.dst x, hp'⟩
        | none => False
    | some _ => match roadOf ops.toList S.ev o with
      | some pc => match quietG C.P pc S.ev S.hp o.op with
        | some (x, p) => dstOk C.N o.dst = true ∧ p ∧ run C ops k E rest ⟨putTm S.tm o.dst (.gd pc x), S.hp⟩
        | none => False
      | none => False

section
variable {C : Ctx} {S : St} {k : Kont}

/-- An operation that does is a step. -/
theorem step_does {o : Oper} {ι : Names'} {a : Act} {w : World} {x : AV} {h' : List Blk} (hh : Here C S ι a w) (hdst : dstOk C.N o.dst = true)
    (hnd : ∀ c, o.op ≠ .defer c) (hd : Does C.P a.eval o C.wc C.ok0 C.fp ι S.hp w x h') {Q : Exit → Act → World → Prop} {next : Act → World → Prop}
    (hnext : ∀ ι' a' w', Here C ⟨putTm S.tm o.dst x, h'⟩ ι' a' w' → next a' w') : o.wpIn C.F C.n C.P a w next Q := by
  obtain ⟨v, w', ι', hrun, hr, hk, hc, hden⟩ := hd
  refine ⟨fun f _ => C.hF f, ?_⟩
  rw [Oper.semAt_eq _ _ _ hnd]
  rcases hrun with hrun | ⟨hrun, rfl⟩ <;> rw [hrun]
  · exact hnext _ _ _ (hh.put hr hk hc hden hdst)
  · exact hnext _ _ _ (hh.put hr hk hc hden hdst)

theorem wanted_road {ops : Array Oper} {o : Oper} {ι : Names'} {a : Act} {w : World} {pc : Bool} (hh : Here C S ι a w) (h : roadOf ops.toList S.ev o = some pc) :
    Region.wanted o (yielded ops a.tmps) = pc := by
  unfold roadOf at h
  unfold Region.wanted
  cases hg : o.guard with
  | none => rw [hg] at h; simpa using h
  | some jw =>
    obtain ⟨j, want⟩ := jw
    rw [hg] at h
    simp only at h ⊢
    split at h
    · rename_i oj hj
      split at h
      · rename_i t ht
        have he := hh.ev (.tmp t)
        have hy : ∀ b, a.tmps.getD t undef = .bool b → yielded ops a.tmps j = some b := by
          intro b hb
          have hj' : ops[j]? = some oj := by simpa using hj
          unfold yielded
          simp only [hj', Option.bind_some, ht]
          have : a.tmps[t]? = some (.bool b) := by
            cases h1 : a.tmps[t]? with
            | none => simp [h1, undef] at hb
            | some u => simp [h1] at hb; rw [hb]
          rw [this]
        split at h
        · rename_i b hb
          rw [hb] at he
          simp only [Option.some.injEq] at h
          rw [hy b he, ← h]; cases b <;> cases want <;> rfl
        · rename_i g b hb
          rw [hb] at he
          simp only [Option.some.injEq] at h
          cases g with
          | true => rw [hy b (he.1 rfl), ← h]; cases b <;> cases want <;> rfl
          | false =>
            have hu : a.tmps.getD t undef = undef := he.2 rfl
            have : yielded ops a.tmps j = none := by
              have hj' : ops[j]? = some oj := by simpa using hj
              unfold yielded
              simp only [hj', Option.bind_some, ht]
              cases h1 : a.tmps[t]? with
              | none => rfl
              | some u => simp [h1] at hu; subst hu; rfl
            rw [this, ← h]; rfl
        · cases h
      · cases h
    · cases h

theorem needs_all {pc : Bool} {ev : Operand → AV} : ∀ {l : List Operand}, needs pc ev l → ∀ a ∈ l, need pc (ev a)
  | [], _, a, h => by cases h
  | b :: l, ⟨h1, h2⟩, a, h => by
    rcases List.mem_cons.1 h with rfl | h
    · exact h1
    · exact needs_all h2 a h

/-- Operands that are not asked of do not matter. -/
theorem quiet0_congr {P : Program} {ev ev' : Operand → AV} {hp : List Blk} {o : Op} (h : ∀ x ∈ o.operands.toList, ev x = ev' x) : quiet0 P ev hp o = quiet0 P ev' hp o := by
  cases o <;> simp only [quiet0]
  case move a => rw [h a (by simp [Op.operands])]
  case assign a => rw [h a (by simp [Op.operands])]
  case pick c a b => rw [h c (by simp [Op.operands]), h a (by simp [Op.operands]), h b (by simp [Op.operands])]
  case load t a => rw [h a (by simp [Op.operands])]
  case nilCheck a => rw [h a (by simp [Op.operands])]
  case binOp op t a b y => rw [h a (by simp [Op.operands]), h b (by simp [Op.operands])]
  case unOp op t a => rw [h a (by simp [Op.operands])]
  case convert s d a => rw [h a (by simp [Op.operands])]
  case makeInterface t a => rw [h a (by simp [Op.operands])]
  case build t ps =>
    have h1 : (ps.toList.map fun p => (p.1, ev p.2)) = ps.toList.map fun p => (p.1, ev' p.2) := List.map_congr_left fun p hp => by rw [h p.2 (by simp only [Op.operands, Array.toList_map]; exact List.mem_map_of_mem hp)]
    rw [h1]
  case makeFunc fn f c =>
    have h1 : f.toList.map ev = f.toList.map ev' := List.map_congr_left fun x hx => h x (by simp [Op.operands] at hx ⊢; exact .inl hx)
    have h2 : c.toList.map ev = c.toList.map ev' := List.map_congr_left fun x hx => h x (by simp [Op.operands] at hx ⊢; exact .inr hx)
    rw [h1, h2]
  case fieldAddr t a f => rw [h a (by simp [Op.operands])]
  case indexAddr t a i => rw [h a (by simp [Op.operands]), h i (by simp [Op.operands])]
  case index t a i => rw [h a (by simp [Op.operands]), h i (by simp [Op.operands])]
  case extract a n => rw [h a (by simp [Op.operands])]
  case slice t a lo hi mx =>
    have h1 : lo.map ev = lo.map ev' := by cases lo <;> simp only [Option.map_none, Option.map_some]; rw [h _ (by simp [Op.operands])]
    have h2 : hi.map ev = hi.map ev' := by cases hi <;> simp only [Option.map_none, Option.map_some]; rw [h _ (by simp [Op.operands])]
    rw [h a (by simp [Op.operands])]
    simp only [sliceA, sliceOwnA, h1, h2]
    cases mx with
    | none => rfl
    | some mx => cases hi with
      | none => rfl
      | some hi =>
        simp only [sliceZA]
        rw [h hi (by simp [Op.operands]), h mx (by simp [Op.operands]), h1]
  case call c =>
    obtain ⟨callee, args, tys⟩ := c
    simp only
    split
    · rename_i b
      unfold builtinA
      split
      · rename_i a t ha ht
        rw [h a (by simp only [Op.operands, Call.operands]; simp [← Array.mem_toList_iff, ha])]
      · rename_i a1 a2 ha
        rw [h a1 (by simp only [Op.operands, Call.operands]; simp [← Array.mem_toList_iff, ha]), h a2 (by simp only [Op.operands, Call.operands]; simp [← Array.mem_toList_iff, ha])]
      · rename_i a1 a2 ha
        rw [h a1 (by simp only [Op.operands, Call.operands]; simp [← Array.mem_toList_iff, ha]), h a2 (by simp only [Op.operands, Call.operands]; simp [← Array.mem_toList_iff, ha])]
      · rfl
    · rfl

theorem quietOp_congr {P : Program} {ev ev' : Operand → AV} {hp : List Blk} {o : Op} (h : ∀ x ∈ o.operands.toList, ev x = ev' x) : quietOp P ev hp o = quietOp P ev' hp o := by
  unfold quietOp
  rw [quiet0_congr h, moreOp_congr h]

theorem does_quietN {P : Program} {ρ : Operand → Value} {o : Oper} {wc : World} {ok0 : Nat → Prop} {fp : List Nat} {ι : Names'} {h : List Blk} {w : World} {x : AV} {ev : Operand → AV} (hev : ∀ x, Den w (okN wc ok0 ι h) ι (ev x) (ρ x))
    (hr : Rel wc ok0 fp ι h w) {p : Prop} (hl : quietOp P (fun a => strip (ev a)) h o.op = some (x, p)) (hp : p) (hn : needs true ev o.op.operands.toList) : Does P ρ o wc ok0 fp ι h w x h := by
  classical
  have hc : quietOp P (fun a => if a ∈ o.op.operands.toList then strip (ev a) else ev a) h o.op = some (x, p) := by
    rw [← hl]; exact quietOp_congr fun a ha => by simp only [if_pos ha]
  refine does_quiet _ (fun a => ?_) hr hc hp
  split
  · rename_i hx; exact strip_den (needs_all hn a hx) rfl (hev a)
  · exact hev a

theorem does_quietG {P : Program} {ρ : Operand → Value} {o : Oper} {wc : World} {ok0 : Nat → Prop} {fp : List Nat} {ι : Names'} {h : List Blk} {w : World} {x : AV} {ev : Operand → AV} (hev : ∀ x, Den w (okN wc ok0 ι h) ι (ev x) (ρ x))
    (hr : Rel wc ok0 fp ι h w) {p : Prop} (hl : quietG P true ev h o.op = some (x, p)) (hp : p) : Does P ρ o wc ok0 fp ι h w x h := by
  have gen : (match quietOp P (fun a => strip (ev a)) h o.op with
      | some (x, p) => some (x, (true = true → p) ∧ needs true ev o.op.operands.toList)
      | none => none) = some (x, p) → Does P ρ o wc ok0 fp ι h w x h := by
    intro hl'
    split at hl'
    · rename_i y q hq
      simp only [Option.some.injEq, Prod.mk.injEq] at hl'
      obtain ⟨rfl, rfl⟩ := hl'
      exact does_quietN hev hr hq (hp.1 trivial) hp.2
    · cases hl'
  cases ho : o.op
  case pick c a b =>
    rw [ho] at hl
    simp only [quietG] at hl
    split at hl
    · rename_i y q hq
      simp only [Option.some.injEq, Prod.mk.injEq] at hl
      obtain ⟨rfl, rfl⟩ := hl
      exact does_pick ho hr (strip_den hp.2 rfl (hev c)) (hev a) (hev b) hq (hp.1 trivial)
    · cases hl
  all_goals
    rw [ho] at hl gen
    exact gen hl

theorem run_sound {ops : Array Oper} {E : St → Prop} (hE : ∀ S, E S → AE C .normal k S) : ∀ (rest : List Oper) (S : St), run C ops k E rest S → AOps C ops rest k S
  | [], S, h => AOps_nil (hE S h)
  | o :: rest, S, h => by
    simp only [run] at h
    split at h
    · exact h
    · rename_i hcall
      have hnd : ∀ c, o.op ≠ .defer c := by intro c e; rw [e] at hcall; simp [isCall] at hcall
      intro ι a w hh
      simp only [wpL]
      split at h
      · rename_i hg
        have hw : Region.wanted o (yielded ops a.tmps) = true := by simp [Region.wanted, hg]
        rw [if_pos hw]
        split at h
        · rename_i x p hq
          obtain ⟨hdst, hp, hrun⟩ := h
          exact step_does hh hdst hnd (does_quiet S.ev hh.ev hh.rel hq hp) (fun ι' a' w' hh' => run_sound hE rest _ hrun ι' a' w' hh')
        · split at h
          · rename_i x hp' p hq
            obtain ⟨hdst, hp, hrun⟩ := h
            exact step_does hh hdst hnd (does_loud S.ev hh.ev hh.rel hq hp) (fun ι' a' w' hh' => run_sound hE rest _ hrun ι' a' w' hh')
          · exact h.elim
      · rename_i g hg
        split at h
        · rename_i pc hroad
          have hw := wanted_road hh hroad
          split at h
          · rename_i x p hq
            obtain ⟨hdst, hp, hrun⟩ := h
            rw [hw]
            cases pc with
            | false =>
              rw [if_neg (by simp)]
              exact ⟨fun f _ => C.hF f, run_sound hE rest _ hrun _ _ _ (hh.undef ⟨fun e => (by cases e), fun _ => rfl⟩ hdst)⟩
            | true =>
              rw [if_pos rfl]
              refine step_does hh hdst hnd (x := .gd true x) ?_ (fun ι' a' w' hh' => run_sound hE rest _ hrun ι' a' w' hh')
              obtain ⟨v, w', ι', h1, h2, h3, h4, h5⟩ := does_quietG hh.ev hh.rel hq hp
              exact ⟨v, w', ι', h1, h2, h3, h4, ⟨fun _ => h5, fun e => by cases e⟩⟩
          · exact h.elim
        · exact h.elim
end

/-- The road, by the slots that the operations write. -/
def roadD (dl : List (Option Tmp)) (ev : Operand → AV) (o : Oper) : Option Bool :=
  match o.guard with
  | none => some true
  | some (j, want) => match dl[j]? with
    | some (some t) => match ev (.tmp t) with
      | .bool b => some (b == want)
      | .gd g (.bool b) => some (g && (b == want))
      | _ => none
    | _ => none

def dsts (ops : Array Oper) : List (Option Tmp) := ops.toList.map (·.dst)

theorem roadD_eq (ops : Array Oper) (ev : Operand → AV) (o : Oper) : roadD (dsts ops) ev o = roadOf ops.toList ev o := by
  unfold roadD roadOf dsts
  cases o.guard with
  | none => rfl
  | some jw =>
    obtain ⟨j, want⟩ := jw
    simp only [List.getElem?_map]
    cases ops.toList[j]? with
    | none => rfl
    | some oj => simp only [Option.map_some]; cases oj.dst <;> rfl

def AOpsD (C : Ctx) (ops : Array Oper) (dl : List (Option Tmp)) (rest : List Oper) (k : Kont) (S : St) : Prop := dl = dsts ops → AOps C ops rest k S

/-- A region's operations, up to the first call: the region itself stands for any. -/
def runD (C : Ctx) (ops : Array Oper) (dl : List (Option Tmp)) (k : Kont) (E : St → Prop) : List Oper → St → Prop
  | [], S => E S
  | o :: rest, S =>
    if isCall o.op = true then AOpsD C ops dl (o :: rest) k S else
    match o.guard with
    | none => match quietOp C.P S.ev S.hp o.op with
      | some (x, p) => dstOk C.N o.dst = true ∧ p ∧ runD C ops dl k E rest ⟨putTm S.tm o.dst x, S.hp⟩
      | none => match loudOp C.P S.ev S.hp o.op with
        | some (x, hp', p) => dstOk C.N o.dst = true ∧ p ∧ runD C ops dl k E rest ⟨putTm S.tm o.dst x, hp'⟩
        | none => False
    | some _ => match roadD dl S.ev o with
      | some pc => match quietG C.P pc S.ev S.hp o.op with
        | some (x, p) => dstOk C.N o.dst = true ∧ p ∧ runD C ops dl k E rest ⟨putTm S.tm o.dst (.gd pc x), S.hp⟩
        | none => False
      | none => False

theorem runD_run {C : Ctx} {ops : Array Oper} {k : Kont} {E : St → Prop} : ∀ (rest : List Oper) (S : St), runD C ops (dsts ops) k E rest S → run C ops k E rest S
  | [], S, h => h
  | o :: rest, S, h => by
    simp only [runD] at h
    simp only [run]
    split at h
    · rename_i hc; rw [if_pos hc]; exact h rfl
    · rename_i hc
      rw [if_neg hc]
      split at h
      · rename_i hg
        split at h
        · rename_i x p hq; exact ⟨h.1, h.2.1, runD_run rest _ h.2.2⟩
        · rename_i hq
          split at h
          · exact ⟨h.1, h.2.1, runD_run rest _ h.2.2⟩
          · exact h.elim
      · rename_i g hg
        rw [roadD_eq] at h
        split at h
        · rename_i pc hr
          split at h
          · exact ⟨h.1, h.2.1, runD_run rest _ h.2.2⟩
          · exact h.elim
        · exact h.elim
end SX
