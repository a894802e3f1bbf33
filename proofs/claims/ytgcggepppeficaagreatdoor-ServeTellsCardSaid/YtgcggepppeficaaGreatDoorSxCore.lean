/- SX: abstract values, their meaning, and what keeps it. -/
import Derived.RangeFuncLeaves
import Derived.RangeFuncNested
import Derived.RangeFuncRecord
import Derived.WalkKit
import Derived.KernelRfl
set_option linter.all false
set_option linter.unusedVariables false
set_option linter.unnecessarySimpa false
set_option linter.unusedSimpArgs false
namespace SX
open Go

/-- Abstract values. `ptr n o`: cell o of own block n; `rptr n m i j`: cell j of row i of own block n, whose rows have m cells; `dptr r o`: cell o of a row of data; `xs m l`: a slice of data (rows of m cells); `own n m o len`: a slice over an own block's rows, from row o on. -/
inductive AV where
  | int (k : IntKind) (n : Int)
  | bool (b : Bool)
  | str (s : List UInt8)
  | ptr (n o : Nat)
  | rptr (n m : Nat) (i : Int) (j : Nat)
  | dptr (r : List AV) (o : Nat)
  | xs (m : Nat) (l : List (List AV))
  | own (n m o len : Nat)
  | nilsl
  | zsl
  | nilptr
  | agg (cs : List AV)
  | tup (vs : List AV)
  | func (fn : Fn) (first cap : List AV)
  | nilfunc
  | iface (t : TypeId) (v : AV)
  | niliface
  | gd (b : Bool) (v : AV)
  | any
  deriving Inhabited

/-- A one-cell value. -/
def one : AV → Bool
  | .int _ _ | .bool _ | .str _ | .ptr _ _ | .rptr _ _ _ _ | .dptr _ _ | .xs _ _ | .own _ _ _ _ | .nilsl | .zsl | .nilptr | .func _ _ _ | .nilfunc | .iface _ _ | .niliface => true
  | _ => false

/-- Where the own blocks lie, and how many rows each has room for. -/
abbrev Names' := List (Nat × Nat)

mutual
/-- What an abstract value says of a value: in a world, where `ok` says which blocks data may lie in, and `ι` where the own blocks lie. -/
def Den (w : World) (ok : Nat → Prop) : Names' → AV → Value → Prop
  | _, .int k n, v => v = .int k n
  | _, .bool b, v => v = .bool b
  | _, .str s, v => v = .string ⟨s.toArray⟩
  | ι, .ptr n o, v => ∃ b c, ι[n]? = some (b, c) ∧ v = .pointer (some ⟨b, o, none⟩)
  | ι, .rptr n m i j, v => ∃ b c, ι[n]? = some (b, c) ∧ v = .pointer (some ⟨b, i.toNat * m + j, none⟩)
  | _, .dptr r o, v => ∃ b o', v = .pointer (some ⟨b, o' + o, none⟩) ∧ DenCells w ok b o' r
  | _, .xs m l, v => ∃ a cap, v = .slice a l.length cap ∧ l.length ≤ cap ∧ DenRows w ok m a 0 l
  | ι, .own n m o len, v => ∃ b c ad, ι[n]? = some (b, c) ∧ o + len ≤ c ∧ (o < c → ad = o * m) ∧ v = .slice (some ⟨b, ad, none⟩) len (c - o)
  | _, .nilsl, v => v = .slice none 0 0
  | _, .zsl, v => ∃ a, v = .slice a 0 0
  | _, .nilptr, v => v = .pointer none
  | ι, .agg cs, v => ∃ vs, v = .agg vs.toArray ∧ DenL w ok ι cs vs
  | ι, .tup cs, v => ∃ vs, v = .tuple vs.toArray ∧ DenL w ok ι cs vs
  | ι, .func fn fs cs, v => ∃ vs us, v = .func fn vs.toArray us.toArray ∧ DenL w ok ι fs vs ∧ DenL w ok ι cs us
  | _, .nilfunc, v => v = .nilFunc
  | ι, .iface t x, v => ∃ u, v = .iface t u ∧ Den w ok ι x u
  | _, .niliface, v => v = .nilIface
  | ι, .gd b x, v => (b = true → Den w ok ι x v) ∧ (b = false → v = undef)
  | _, .any, _ => True
def DenL (w : World) (ok : Nat → Prop) : Names' → List AV → List Value → Prop
  | _, [], vs => vs = []
  | ι, c :: cs, vs => ∃ v vs', vs = v :: vs' ∧ Den w ok ι c v ∧ DenL w ok ι cs vs'
def DenCells (w : World) (ok : Nat → Prop) (b : Nat) : Nat → List AV → Prop
  | _, [] => True
  | o, c :: cs => (∃ u, ok b ∧ w.cell? ⟨b, o, none⟩ = some u ∧ one c = true ∧ Den w ok [] c u) ∧ DenCells w ok b (o + 1) cs
def DenRows (w : World) (ok : Nat → Prop) (m : Nat) (a : Option Addr) : Nat → List (List AV) → Prop
  | _, [] => True
  | i, r :: rs => (r.length = m ∧ ∃ ad, a = some ad ∧ ad.spot = none ∧ DenCells w ok ad.block (ad.off + i * m) r) ∧ DenRows w ok m a (i + 1) rs
end

/-- What lies in blocks that data may lie in stays, and they stay such. -/
def Keeps (w : World) (ok : Nat → Prop) (w' : World) (ok' : Nat → Prop) : Prop :=
  ∀ b, ok b → b < w.heap.size → w'.heap[b]? = w.heap[b]? ∧ ok' b

theorem Keeps.refl (w : World) (ok : Nat → Prop) : Keeps w ok w ok := fun _ h _ => ⟨rfl, h⟩

theorem cell_lt {w : World} {a : Addr} {v : Value} (h : w.cell? a = some v) : a.block < w.heap.size := by
  unfold World.cell? at h
  cases hb : w.heap[a.block]? with
  | none => rw [hb] at h; simp at h
  | some o => exact (Array.getElem?_eq_some_iff.1 hb).1

theorem Keeps.cell {w w' : World} {ok ok' : Nat → Prop} (h : Keeps w ok w' ok') {b o : Nat} {v : Value} (hb : ok b) (hc : w.cell? ⟨b, o, none⟩ = some v) :
    w'.cell? ⟨b, o, none⟩ = some v ∧ ok' b := by
  obtain ⟨e, h'⟩ := h b hb (cell_lt hc)
  exact ⟨by rw [← hc]; exact World.cell?_of_block (w := w) e, h'⟩

/-- Names are carried over. -/
def Carried (ρ : Nat → Nat) (ι ι' : Names') : Prop := ∀ n b, ι[n]? = some b → ι'[ρ n]? = some b

mutual
/-- Own blocks under other names. -/
def AV.ren (ρ : Nat → Nat) : AV → AV
  | .ptr n o => .ptr (ρ n) o
  | .rptr n m i j => .rptr (ρ n) m i j
  | .own n m o len => .own (ρ n) m o len
  | .agg cs => .agg (AV.renL ρ cs)
  | .tup cs => .tup (AV.renL ρ cs)
  | .func fn fs cs => .func fn (AV.renL ρ fs) (AV.renL ρ cs)
  | .iface t x => .iface t (x.ren ρ)
  | .gd b x => .gd b (x.ren ρ)
  | x => x
def AV.renL (ρ : Nat → Nat) : List AV → List AV
  | [] => []
  | c :: cs => c.ren ρ :: AV.renL ρ cs
end

mutual
theorem AV.ren_id : ∀ x : AV, x.ren id = x
  | .int _ _ => rfl
  | .bool _ => rfl
  | .str _ => rfl
  | .ptr _ _ => rfl
  | .rptr _ _ _ _ => rfl
  | .dptr _ _ => rfl
  | .xs _ _ => rfl
  | .own _ _ _ _ => rfl
  | .nilsl => rfl
  | .zsl => rfl
  | .nilptr => rfl
  | .agg cs => by simp only [AV.ren, AV.renL_id cs]
  | .tup cs => by simp only [AV.ren, AV.renL_id cs]
  | .func _ fs cs => by simp only [AV.ren, AV.renL_id cs, AV.renL_id fs]
  | .nilfunc => rfl
  | .iface _ x => by simp only [AV.ren, AV.ren_id x]
  | .niliface => rfl
  | .gd _ x => by simp only [AV.ren, AV.ren_id x]
  | .any => rfl
theorem AV.renL_id : ∀ cs : List AV, AV.renL id cs = cs
  | [] => rfl
  | c :: cs => by simp only [AV.renL, AV.ren_id c, AV.renL_id cs]
end

section
variable {w w' : World} {ok ok' : Nat → Prop}

mutual
theorem Den.keep (hk : Keeps w ok w' ok') {ρ : Nat → Nat} : ∀ {ι ι' : Names'} (x : AV) {v : Value}, Carried ρ ι ι' → Den w ok ι x v → Den w' ok' ι' (x.ren ρ) v
  | _, _, .int _ _, _, _, h => h
  | _, _, .bool _, _, _, h => h
  | _, _, .str _, _, _, h => h
  | _, _, .ptr n o, _, hn, ⟨b, c, hb, e⟩ => ⟨b, c, hn _ _ hb, e⟩
  | _, _, .rptr _ _ _ _, _, hn, ⟨b, c, hb, e⟩ => ⟨b, c, hn _ _ hb, e⟩
  | _, _, .dptr r o, _, _, ⟨b, o', e, hc⟩ => ⟨b, o', e, DenCells.keep hk r hc⟩
  | _, _, .xs m l, _, _, ⟨a, cap, e, hl, hr⟩ => ⟨a, cap, e, hl, DenRows.keep hk l hr⟩
  | _, _, .own _ _ _ _, _, hn, ⟨b, c, ad, hb, h⟩ => ⟨b, c, ad, hn _ _ hb, h⟩
  | _, _, .nilsl, _, _, h => h
  | _, _, .zsl, _, _, h => h
  | _, _, .nilptr, _, _, h => h
  | _, _, .agg cs, _, hn, ⟨vs, e, h⟩ => ⟨vs, e, DenL.keep hk cs hn h⟩
  | _, _, .tup cs, _, hn, ⟨vs, e, h⟩ => ⟨vs, e, DenL.keep hk cs hn h⟩
  | _, _, .func _ fs cs, _, hn, ⟨vs, us, e, h, h'⟩ => ⟨vs, us, e, DenL.keep hk fs hn h, DenL.keep hk cs hn h'⟩
  | _, _, .nilfunc, _, _, h => h
  | _, _, .iface _ x, _, hn, ⟨u, e, h⟩ => ⟨u, e, Den.keep hk x hn h⟩
  | _, _, .niliface, _, _, h => h
  | _, _, .gd _ x, _, hn, ⟨h, h'⟩ => ⟨fun hb => Den.keep hk x hn (h hb), h'⟩
  | _, _, .any, _, _, h => h
theorem DenL.keep (hk : Keeps w ok w' ok') {ρ : Nat → Nat} : ∀ {ι ι' : Names'} (cs : List AV) {vs : List Value}, Carried ρ ι ι' → DenL w ok ι cs vs → DenL w' ok' ι' (AV.renL ρ cs) vs
  | _, _, [], _, _, h => h
  | _, _, c :: cs, _, hn, ⟨v, vs', e, h, h'⟩ => ⟨v, vs', e, Den.keep hk c hn h, DenL.keep hk cs hn h'⟩
theorem DenCells.keep (hk : Keeps w ok w' ok') {b : Nat} : ∀ {o : Nat} (cs : List AV), DenCells w ok b o cs → DenCells w' ok' b o cs
  | _, [], h => h
  | _, c :: cs, ⟨⟨u, hb, hc, h1, h⟩, hr⟩ =>
    ⟨⟨u, (hk.cell hb hc).2, (hk.cell hb hc).1, h1, by
      have := Den.keep hk (ρ := id) (ι := []) (ι' := []) c (fun n b h => by simp at h) h
      rwa [AV.ren_id] at this⟩, DenCells.keep hk cs hr⟩
theorem DenRows.keep (hk : Keeps w ok w' ok') {m : Nat} {a : Option Addr} : ∀ {i : Nat} (l : List (List AV)), DenRows w ok m a i l → DenRows w' ok' m a i l
  | _, [], h => h
  | _, r :: rs, ⟨⟨hl, ad, ha, hs, hc⟩, hr⟩ => ⟨⟨hl, ad, ha, hs, DenCells.keep hk r hc⟩, DenRows.keep hk rs hr⟩
end
end
end SX
