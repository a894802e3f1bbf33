/- SX: what the operations make of abstract values. -/
import Derived.Test.YtgcggepppeficaaGreatDoorSxState
set_option linter.all false
set_option linter.unusedVariables false
set_option linter.unnecessarySimpa false
set_option linter.unusedSimpArgs false
namespace SX
open Go

/-- A constant, abstractly. -/
def cv : Value → AV
  | .int k n => .int k n
  | .bool b => .bool b
  | .string s => .str s.data.toList
  | .pointer none => .nilptr
  | .slice none 0 0 => .nilsl
  | .nilFunc => .nilfunc
  | .nilIface => .niliface
  | _ => .any

theorem den_cv (w : World) (ok : Nat → Prop) (ι : Names') : ∀ v : Value, Den w ok ι (cv v) v
  | .int _ _ => rfl
  | .bool _ => rfl
  | .string _ => rfl
  | .pointer none => rfl
  | .pointer (some _) => trivial
  | .slice none 0 0 => rfl
  | .slice none 0 (_ + 1) => trivial
  | .slice none (_ + 1) _ => trivial
  | .slice (some _) _ _ => trivial
  | .nilFunc => rfl
  | .nilIface => rfl
  | .float _ _ => trivial
  | .complex _ _ _ => trivial
  | .map _ => trivial
  | .chan _ => trivial
  | .func _ _ _ => trivial
  | .iface _ _ => trivial
  | .agg _ => trivial
  | .tuple _ => trivial

theorem denL_cv (w : World) (ok : Nat → Prop) (ι : Names') : ∀ vs : List Value, DenL w ok ι (vs.map cv) vs
  | [] => rfl
  | v :: vs => ⟨v, vs, rfl, den_cv w ok ι v, denL_cv w ok ι vs⟩

/-- A type's make, as far as the operations ask. -/
inductive Sh where
  | int (k : IntKind) | bool | str
  | ptr (e : TypeId)
  | slice (e m bytes : Nat) (zrow : List AV)
  | arr (n e m : Nat)
  | struct (fs : List (Nat × Nat))
  | func | iface | other

structure TyI where
  sh : Sh
  size : Nat
  zero : List AV

/-- A type's make, off the program's table. -/
def tyi (P : Program) (t : TypeId) : Option TyI :=
  match P.info? t, P.underlying t with
  | some i, some d =>
    match i.zero with
    | none => none
    | some z =>
      let mk (s : Sh) : Option TyI := some { sh := s, size := i.size, zero := z.cells.toList.map cv }
      match d with
      | .int k => mk (.int k)
      | .bool => mk .bool
      | .string => mk .str
      | .pointer e => mk (.ptr e)
      | .slice e => match P.info? e with
        | some ie => match ie.zero with
          | some ze => if ze.cells.size = ie.size then mk (.slice e ie.size ie.bytes (ze.cells.toList.map cv)) else none
          | none => none
        | none => none
      | .array n e => match P.info? e with
        | some ie => mk (.arr n e ie.size)
        | none => none
      | .struct fs => if fs.toList.all (fun f => (P.info? f.type).isSome) = true then mk (.struct (fs.toList.map fun f => (f.offset, ((P.info? f.type).map (·.size)).getD 0))) else none
      | .func _ _ _ => mk .func
      | .interface _ => mk .iface
      | _ => mk .other
  | _, _ => none

/-- Is a value of the type several cells? -/
def Sh.agg : Sh → Bool
  | .arr _ _ _ => true
  | .struct _ => true
  | _ => false

section
variable {P : Program} {t : TypeId} {I : TyI}

theorem tyi_info (h : tyi P t = some I) : ∃ i z, P.info? t = some i ∧ i.zero = some z ∧ i.size = I.size ∧ I.zero = z.cells.toList.map cv := by
  unfold tyi at h
  split at h
  · rename_i i d hi hd
    split at h
    · cases h
    · rename_i z hz
      refine ⟨i, z, hi, hz, ?_⟩
      dsimp only at h
      split at h
      all_goals first
        | (cases h; exact ⟨rfl, rfl⟩)
        | (split at h
           · first
              | (cases h; exact ⟨rfl, rfl⟩)
              | (split at h
                 · split at h
                   · cases h; exact ⟨rfl, rfl⟩
                   · cases h
                 · cases h)
           · cases h)
  · cases h

theorem tyi_agg (h : tyi P t = some I) : ∃ d, P.underlying t = some d ∧ ((match d with | .struct _ => true | .array _ _ => true | _ => false) = I.sh.agg) := by
  unfold tyi at h
  split at h
  · rename_i i d hi hd
    split at h
    · cases h
    · rename_i z hz
      refine ⟨d, hd, ?_⟩
      dsimp only at h
      split at h
      all_goals first
        | (cases h; rfl)
        | (split at h
           · first
              | (cases h; rfl)
              | (split at h
                 · split at h
                   · cases h; rfl
                   · cases h
                 · cases h)
           · cases h)
        | (cases h; simp only [Sh.agg])
  · cases h

theorem tyi_slice {e m by' : Nat} {zr : List AV} (h : tyi P t = some I) (hs : I.sh = .slice e m by' zr) :
    P.underlying t = some (.slice e) ∧ ∃ ie ze, P.info? e = some ie ∧ ie.zero = some ze ∧ ie.size = m ∧ ie.bytes = by' ∧ ze.cells.size = m ∧ zr = ze.cells.toList.map cv := by
  unfold tyi at h
  split at h
  · rename_i i d hi hd
    split at h
    · cases h
    · dsimp only at h
      split at h
      all_goals first
        | (cases h; cases hs; done)
        | (split at h
           · split at h
             · split at h
               · cases h; cases hs
                 exact ⟨hd, _, _, by assumption, by assumption, rfl, rfl, by assumption, rfl⟩
               · cases h
             · cases h
           · cases h)
        | (split at h
           · cases h; cases hs
           · cases h)
  · cases h

theorem tyi_arr {n e m : Nat} (h : tyi P t = some I) (hs : I.sh = .arr n e m) :
    P.underlying t = some (.array n e) ∧ ∃ ie, P.info? e = some ie ∧ ie.size = m := by
  unfold tyi at h
  split at h
  · rename_i i d hi hd
    split at h
    · cases h
    · dsimp only at h
      split at h
      all_goals first
        | (cases h; cases hs; done)
        | (split at h
           · split at h
             · split at h
               · cases h; cases hs
               · cases h
             · cases h
           · cases h)
        | (split at h
           · cases h; cases hs; done
           · cases h)
        | (split at h
           · cases h; cases hs
             exact ⟨hd, _, by assumption, rfl⟩
           · cases h)
  · cases h

theorem tyi_struct {fs : List (Nat × Nat)} (h : tyi P t = some I) (hs : I.sh = .struct fs) :
    ∃ fields, P.underlying t = some (.struct fields) ∧ fs = (fields.toList.map fun f => (f.offset, ((P.info? f.type).map (·.size)).getD 0)) ∧ fields.toList.all (fun f => (P.info? f.type).isSome) = true := by
  unfold tyi at h
  split at h
  · rename_i i d hi hd
    split at h
    · cases h
    · dsimp only at h
      split at h
      all_goals first
        | (cases h; cases hs; done)
        | (split at h
           · rename_i hall; cases h; cases hs; exact ⟨_, hd, rfl, hall⟩
           · cases h)
        | (split at h
           · split at h
             · split at h
               · cases h; cases hs
               · cases h
             · cases h
           · cases h)
        | (split at h
           · cases h; cases hs
           · cases h)
  · cases h

theorem tyi_plain (h : tyi P t = some I) : (∀ k, I.sh = .int k → P.underlying t = some (.int k)) ∧ (I.sh = .bool → P.underlying t = some .bool) ∧ (I.sh = .str → P.underlying t = some .string) ∧ (∀ e, I.sh = .ptr e → P.underlying t = some (.pointer e)) := by
  unfold tyi at h
  split at h
  · rename_i i d hi hd
    split at h
    · cases h
    · dsimp only at h
      split at h
      all_goals first
        | (cases h; refine ⟨fun k hk => ?_, fun hk => ?_, fun hk => ?_, fun k hk => ?_⟩ <;> first | (cases hk; exact hd) | (cases hk; done))
        | (split at h
           · split at h
             · split at h
               · cases h; refine ⟨fun k hk => ?_, fun hk => ?_, fun hk => ?_, fun k hk => ?_⟩ <;> cases hk
               · cases h
             · cases h
           · cases h)
        | (split at h
           · cases h; refine ⟨fun k hk => ?_, fun hk => ?_, fun hk => ?_, fun k hk => ?_⟩ <;> cases hk
           · cases h)
  · cases h
end
end SX
