/- SX: operations on memory, and what they make of a state. -/
import Derived.Test.YtgcggepppeficaaGreatDoorSxMem
import Derived.Laws.BytesString
import Derived.Laws.Small
import Derived.Laws.AppendOwn
set_option linter.all false
set_option linter.unusedVariables false
set_option linter.unnecessarySimpa false
set_option linter.unusedSimpArgs false
namespace SX
open Go

section
variable (P : Program) (ρ : Operand → Value) (o : Oper) (wc : World) (ok0 : Nat → Prop) (fp : List Nat)

/-- What data may lie in by now. -/
abbrev okN (ι : Names') (h : List Blk) : Nat → Prop := okNow ok0 wc.heap.size ι h

/-- The operation gives a value that the abstract one tells, and own blocks as told. -/
def Does (ι : Names') (h : List Blk) (w : World) (x : AV) (h' : List Blk) : Prop :=
  ∃ v w' ι', ((execOp ρ o).run P w = .ok (.value v) w' ∨ ((execOp ρ o).run P w = .ok .skip w' ∧ v = undef)) ∧
    Rel wc ok0 fp ι' h' w' ∧ Keeps w (okN wc ok0 ι h) w' (okN wc ok0 ι' h') ∧ Carried id ι ι' ∧ Den w' (okN wc ok0 ι' h') ι' x v
end

section
variable {P : Program} {ρ : Operand → Value} {o : Oper} {wc : World} {ok0 : Nat → Prop} {fp : List Nat} {ι : Names'} {h h' : List Blk} {w w' : World} {x : AV} {v : Value}

theorem Does.quiet (hr : Rel wc ok0 fp ι h w) (e : (execOp ρ o).run P w = .ok (.value v) w) (hd : Den w (okN wc ok0 ι h) ι x v) : Does P ρ o wc ok0 fp ι h w x h :=
  ⟨v, w, ι, .inl e, hr, Keeps.refl _ _, carried_refl _, hd⟩

/-- No name stands in it. -/
def nn : AV → Bool
  | .int _ _ | .bool _ | .str _ | .dptr _ _ | .xs _ _ | .nilsl | .zsl | .nilptr | .nilfunc | .niliface => true
  | .func _ [] [] => true
  | _ => false

theorem nn_den {ok : Nat → Prop} {ι ι' : Names'} {x : AV} (h1 : nn x = true) (h : Den w ok ι x v) : Den w ok ι' x v := by
  cases x
  case func fn fs cs =>
    cases fs with
    | cons => simp [nn] at h1
    | nil => cases cs with
      | cons => simp [nn] at h1
      | nil => simpa only [Den, DenL] using h
  all_goals first
    | (simp only [nn, Bool.false_eq_true] at h1; done)
    | (simpa only [Den] using h)

/-- Where an abstract address reads: the cells from there on, and what must hold. -/
def cellsAt (hp : List Blk) : AV → Option (List AV × Prop)
  | .ptr n o => match hp[n]? with
    | some (.box T cs) => some (cs.drop o, True)
    | some (.rows _ _ _ l) => some (l.flatten.drop o, True)
    | _ => none
  | .rptr n m i j => match hp[n]? with
    | some (.rows _ m' _ l) => some ((l.getD i.toNat []).drop j, i.toNat < l.length ∧ m' = m)
    | some (.box T cs) => some (cs.drop (i.toNat * m + j), True)
    | _ => none
  | .dptr r o => some (r.drop o, True)
  | _ => none

theorem flatten_get {m : Nat} : ∀ {l : List (List AV)} (_ : ∀ r ∈ l, r.length = m) {i j : Nat} {r : List AV} (_ : l[i]? = some r) (_ : j < m), l.flatten[i * m + j]? = r[j]?
  | [], _, i, j, r, hr, _ => by simp at hr
  | a :: l, hl, 0, j, r, hr, hj => by
    simp at hr; subst hr
    have ha := hl a (by simp)
    simp only [List.flatten_cons, Nat.zero_mul, Nat.zero_add]
    rw [List.getElem?_append_left (by omega)]
  | a :: l, hl, i + 1, j, r, hr, hj => by
    have ha := hl a (by simp)
    simp only [List.flatten_cons]
    rw [List.getElem?_append_right (by rw [ha, Nat.add_mul]; omega), ha]
    rw [show (i + 1) * m + j - m = i * m + j by rw [Nat.add_mul]; omega]
    exact flatten_get (fun r hr => hl r (by simp [hr])) (by simpa using hr) hj

theorem flatten_len {m : Nat} : ∀ {l : List (List AV)} (_ : ∀ r ∈ l, r.length = m), l.flatten.length = l.length * m
  | [], _ => by simp
  | a :: l, hl => by
    have ha := hl a (by simp)
    have := flatten_len (l := l) (fun r hr => hl r (by simp [hr]))
    simp only [List.flatten_cons, List.length_append, List.length_cons, ha, this, Nat.add_mul]; omega

theorem reads_cells {b c : Nat} {ok : Nat → Prop} {blk : Blk} (hb : BlkAt w ok ι b c blk) : match blk with
    | .box T cs => Reads w ok ι b 0 cs
    | .rows _ m _ l => Reads w ok [] b 0 l.flatten ∧ ∀ r ∈ l, r.length = m
    | _ => True := by
  cases blk with
  | dead => trivial
  | obj o => trivial
  | box T cs =>
    obtain ⟨vs, fz, h1, h2, h3⟩ := hb
    intro j x hx
    obtain ⟨u, hu, hd⟩ := (denL_iff.1 h3).2 j x hx
    refine ⟨u, ?_, hd⟩
    simp only [World.cell?, h1, Nat.zero_add]
    simpa using hu
  | rows e m pl l =>
    obtain ⟨cells, fz, vs, h1, h2, h3, h4, h5, h6, h7, h8, _⟩ := hb
    refine ⟨fun j x hx => ?_, h8⟩
    obtain ⟨u, hu, hd⟩ := (denL_iff.1 h7).2 j x hx
    refine ⟨u, ?_, hd⟩
    simp only [World.cell?, h1, Nat.zero_add]
    have hlt := (List.getElem?_eq_some_iff.1 hu).1
    rw [← h6, List.getElem?_take] at hu
    simp only [hlt, if_true] at hu
    simpa using hu

theorem reads_data {ok : Nat → Prop} {b : Nat} : ∀ {r : List AV} {o : Nat}, DenCells w ok b o r → Reads w ok [] b o r
  | [], o, _ => Reads.nil _ _ _ _ _
  | c :: r, o, ⟨⟨u, _, hc, _, hd⟩, hrest⟩ => by
    intro j x hx
    cases j with
    | zero => simp at hx; subst hx; exact ⟨u, hc, hd⟩
    | succ j =>
      simp at hx
      obtain ⟨u', hu', hd'⟩ := reads_data hrest j x hx
      exact ⟨u', by rw [show o + (j + 1) = o + 1 + j by omega]; exact hu', hd'⟩

theorem Reads.lift {ok : Nat → Prop} {b o : Nat} {cs : List AV} (h : Reads w ok [] b o cs) : Reads w ok ι b o cs := fun j x hx => by
  obtain ⟨u, hu, hd⟩ := h j x hx
  exact ⟨u, hu, hd.keep' (Keeps.refl _ _) (carried_nil _ _)⟩

theorem Rel.get (hr : Rel wc ok0 fp ι h w) {n : Nat} {blk : Blk} (hn : h[n]? = some blk) (hl : blk.live = true) {b c : Nat} (hi : ι[n]? = some (b, c)) : BlkAt w (okN wc ok0 ι h) ι b c blk := (hr.own n b c blk hi hn hl).2.2

theorem cellsAt_spec (hr : Rel wc ok0 fp ι h w) {cs : List AV} {p : Prop} (hc : cellsAt h x = some (cs, p)) (hp : p) (hd : Den w (okN wc ok0 ι h) ι x v) :
    ∃ b off, v = .pointer (some ⟨b, off, none⟩) ∧ Reads w (okN wc ok0 ι h) ι b off cs := by
  cases x <;> simp only [cellsAt, reduceCtorEq] at hc
  case ptr n o =>
    obtain ⟨b, c, hi, rfl⟩ := hd
    cases hn : h[n]? with
    | none => rw [hn] at hc; simp at hc
    | some blk =>
      rw [hn] at hc
      cases blk with
      | dead => simp at hc
      | obj o => simp at hc
      | box T cs' =>
        simp only [Option.some.injEq, Prod.mk.injEq] at hc
        obtain ⟨rfl, rfl⟩ := hc
        have := reads_cells (hr.get hn rfl hi)
        exact ⟨b, o, rfl, by have := this.drop o; simpa using this⟩
      | rows e m pl l =>
        simp only [Option.some.injEq, Prod.mk.injEq] at hc
        obtain ⟨rfl, rfl⟩ := hc
        have := (reads_cells (hr.get hn rfl hi)).1
        exact ⟨b, o, rfl, by have := (this.lift (ι := ι)).drop o; simpa using this⟩
  case rptr n m i j =>
    obtain ⟨b, c, hi, rfl⟩ := hd
    cases hn : h[n]? with
    | none => rw [hn] at hc; simp at hc
    | some blk =>
      rw [hn] at hc
      cases blk with
      | dead => simp at hc
      | obj o => simp at hc
      | box T cs' =>
        simp only [Option.some.injEq, Prod.mk.injEq] at hc
        obtain ⟨rfl, rfl⟩ := hc
        have := reads_cells (hr.get hn rfl hi)
        exact ⟨b, _, rfl, by have := this.drop (i.toNat * m + j); simpa using this⟩
      | rows e m' pl l =>
        simp only [Option.some.injEq, Prod.mk.injEq] at hc
        obtain ⟨rfl, rfl⟩ := hc
        obtain ⟨hlt, rfl⟩ := hp
        obtain ⟨h1, h2⟩ := reads_cells (hr.get hn rfl hi)
        have hrow : l[i.toNat]? = some (l.getD i.toNat []) := by simp [List.getD, List.getElem?_eq_getElem hlt]
        have hlen := h2 _ (List.mem_of_getElem? hrow)
        refine ⟨b, _, rfl, fun k x hx => ?_⟩
        rw [List.getElem?_drop] at hx
        have hk := (List.getElem?_eq_some_iff.1 hx).1
        rw [← flatten_get h2 hrow (by omega)] at hx
        obtain ⟨u, hu, hd⟩ := h1.lift (ι := ι) _ x hx
        exact ⟨u, by rw [← hu]; congr 2; omega, hd⟩
  case dptr r o =>
    obtain ⟨b, o', rfl, hcells⟩ := hd
    simp only [Option.some.injEq, Prod.mk.injEq] at hc
    obtain ⟨rfl, rfl⟩ := hc
    exact ⟨b, o' + o, rfl, (reads_data hcells).lift.drop o⟩

def loadA (hp : List Blk) (I : TyI) (a : AV) : Option (AV × Prop) :=
  match cellsAt hp a with
  | some (cs, p) => if I.sh.agg = true ∨ I.size = 1 then some (joinA I.sh.agg (cs.take I.size), p ∧ I.size ≤ cs.length) else none
  | none => none

theorem does_load {t : TypeId} {I : TyI} {a : Operand} {xa : AV} {p : Prop} (ho : o.op = .load t a) (hI : tyi P t = some I) (hr : Rel wc ok0 fp ι h w) (ha : Den w (okN wc ok0 ι h) ι xa (ρ a))
    (hl : loadA h I xa = some (x, p)) (hp : p) : Does P ρ o wc ok0 fp ι h w x h := by
  unfold loadA at hl
  split at hl
  · rename_i cs q hc
    split at hl
    · rename_i hag
      simp only [Option.some.injEq, Prod.mk.injEq] at hl
      obtain ⟨rfl, rfl⟩ := hl
      obtain ⟨hq, hlen⟩ := hp
      obtain ⟨b, off, he, hreads⟩ := cellsAt_spec hr hc hq ha
      have hreads' : Reads w (okN wc ok0 ι h) ι b off (cs.take I.size) := fun j x hx => by
        rw [List.getElem?_take] at hx
        split at hx
        · exact hreads j x hx
        · cases hx
      obtain ⟨v, hv, hd⟩ := run_loadVar_reads hI hreads' (by simp; omega) (fun hf => hag.resolve_left (by simp [hf]))
      refine Does.quiet hr (v := v) ?_ hd
      simp only [execOp, ho, he, Instr.loadAt, Instr.sureAddr, Sem.run_bind, Sem.run_pure, Result.andThen_ok, hv]
    · cases hl
  · cases hl

/-- A new box. -/
theorem does_new {blk : Blk} {cells : Array Value} {T : TypeId} {c : Nat} (hr : Rel wc ok0 fp ι h w) (hv : v = .pointer (some ⟨w.heap.size, 0, none⟩) )
    (e : (execOp ρ o).run P w = .ok (.value v) (w.alloc (.cells cells T)))
    (hb : ∀ w' ok' ι', Keeps w (okN wc ok0 ι h) w' ok' → Carried id ι ι' → w'.heap[w.heap.size]? = some (.cells cells T) → BlkAt w' ok' ι' w.heap.size c blk) :
    Does P ρ o wc ok0 fp ι h w (.ptr h.length 0) (h ++ [blk]) := by
  have hlen := hr.len
  have hnew : (w.alloc (.cells cells T)).heap[w.heap.size]? = some (.cells cells T) := World.alloc_heap_new _ _
  have hold : ∀ b, b < w.heap.size → (w.alloc (.cells cells T)).heap[b]? = w.heap[b]? := fun b hb => getElem?_push_lt _ _ hb
  have hk : Keeps w (okN wc ok0 ι h) (w.alloc (.cells cells T)) (okN wc ok0 (ι ++ [(w.heap.size, c)]) (h ++ [blk])) := by
    rintro b ⟨hb1, hb2⟩ hlt
    refine ⟨hold b hlt, hb1, fun n c' blk' hn hl he => ?_⟩
    rcases Nat.lt_or_ge n h.length with hlt' | hge
    · rw [List.getElem?_append_left hlt'] at hn
      rw [List.getElem?_append_left (by rw [hr.len]; exact hlt')] at he
      exact hb2 n c' blk' hn hl he
    · rw [List.getElem?_append_right (by rw [hr.len]; exact hge), hr.len] at he
      cases hd : n - h.length with
      | zero => rw [hd] at he; simp at he; omega
      | succ k => rw [hd] at he; simp at he
  obtain ⟨hr', hk'⟩ := hr.more (w' := w.alloc (.cells cells T)) (c := c) (blk := blk) rfl rfl rfl (by simp) hold (hb _ _ _ hk (carried_append _ _) hnew)
  refine ⟨v, _, _, .inl e, hr', hk', carried_append _ _, ?_⟩
  exact ⟨w.heap.size, c, by rw [← hlen]; simp, hv⟩

/-- Cells in rows. -/
def chunks (m : Nat) : Nat → List AV → List (List AV)
  | 0, _ => []
  | n + 1, cs => cs.take m :: chunks m n (cs.drop m)

theorem chunks_length (m : Nat) : ∀ (n : Nat) (cs : List AV), (chunks m n cs).length = n
  | 0, _ => rfl
  | n + 1, cs => by simp [chunks, chunks_length m n]

theorem chunks_flatten {m : Nat} : ∀ (n : Nat) (cs : List AV), cs.length = n * m → (chunks m n cs).flatten = cs ∧ ∀ r ∈ chunks m n cs, r.length = m
  | 0, cs, h => by simp at h; subst h; simp [chunks]
  | n + 1, cs, h => by
    have h' : (cs.drop m).length = n * m := by simp [h, Nat.add_mul]
    obtain ⟨h1, h2⟩ := chunks_flatten n (cs.drop m) h'
    refine ⟨by simp [chunks, h1], fun r hr => ?_⟩
    simp only [chunks, List.mem_cons] at hr
    rcases hr with rfl | hr
    · simp [h, Nat.add_mul]
    · exact h2 r hr

/-- The block that a new variable of a type is, of given cells. -/
def varBlk (t : TypeId) (I : TyI) (cs : List AV) : Option Blk :=
  match I.sh with
  | .arr n _ m => if cs.length = n * m ∧ n ≤ maxLen ∧ cs.all nn = true ∧ cs.all one = true then some (.rows t m 2 (chunks m n cs)) else none
  | _ => some (.box t cs)

theorem nn_denL {ok : Nat → Prop} {ι ι' : Names'} : ∀ {cs : List AV} {vs : List Value}, cs.all nn = true → DenL w ok ι cs vs → DenL w ok ι' cs vs
  | [], _, _, h => h
  | c :: cs, vs, h1, ⟨v, vs', e, h, h'⟩ => by
    simp only [List.all_cons, Bool.and_eq_true] at h1
    exact ⟨v, vs', e, nn_den h1.1 h, nn_denL h1.2 h'⟩

def Sh.rooms : Sh → Nat
  | .arr n _ _ => n
  | _ => 0

/-- The element type that a new variable's block bears: a row's own for an array. -/
theorem varBlk_at {t : TypeId} {I : TyI} {cs : List AV} {blk : Blk} {cells : Array Value} {ok : Nat → Prop} {ok' : Nat → Prop} {ι' : Names'} {b : Nat} {w' : World}
    (hv : varBlk t I cs = some blk) (hd : DenL w ok ι cs cells.toList) (hk : Keeps w ok w' ok') (hc : Carried id ι ι') (hb : w'.heap[b]? = some (.cells cells t)) :
    BlkAt w' ok' ι' b I.sh.rooms blk := by
  have hd' : DenL w' ok' ι' cs cells.toList := hd.keep' hk hc
  unfold varBlk at hv
  split at hv
  · rename_i n e m hsh
    split at hv
    · rename_i hcond
      obtain ⟨h1, h2, h3, h4⟩ := hcond
      cases hv
      obtain ⟨g1, g2⟩ := chunks_flatten n cs h1
      have hsz : cells.size = n * m := by rw [← Array.length_toList, ← denL_length hd, h1]
      refine ⟨cells, (0, 0), cells.toList, hb, fun _ => Or.inl (Nat.le_refl _), ⟨fun _ => rfl, fun _ => by rw [hsh]; exact chunks_length m n cs⟩, by rw [hsh]; exact hsz, by rw [hsh]; exact h2, List.take_length, ?_, g2, by rw [g1]; exact h4⟩
      rw [g1]; exact nn_denL h3 hd'
    · cases hv
  · cases hv
    exact ⟨cells, (0, 0), hb, Or.inl (Nat.le_refl _), hd'⟩
end
end SX

/- SX: more operations: new variables, stores, addresses. -/
namespace SX
open Go

section
variable {P : Program} {ρ : Operand → Value} {o : Oper} {wc : World} {ok0 : Nat → Prop} {fp : List Nat} {ι : Names'} {h h' : List Blk} {w w' : World} {x : AV} {v : Value}

theorem does_alloc {t : TypeId} {I : TyI} {blk : Blk} (ho : o.op = .alloc t) (hI : tyi P t = some I) (hr : Rel wc ok0 fp ι h w) (hb : varBlk t I I.zero = some blk) :
    Does P ρ o wc ok0 fp ι h w (.ptr h.length 0) (h ++ [blk]) := by
  obtain ⟨i, z, hi, hz, hsz, hzero⟩ := tyi_info hI
  refine does_new (cells := z.cells) (T := t) (c := I.sh.rooms) (v := .pointer (some ⟨w.heap.size, 0, none⟩)) hr rfl ?_ (fun w' ok' ι' hk hc hnew => varBlk_at hb (ok := okN wc ok0 ι h) (ι := ι) ?_ hk hc hnew)
  · simp only [execOp, ho, Instr.alloc, Sem.run_bind, zeroValue, run_typeInfo w hi, Result.andThen_ok, hz, Sem.run_pure, newVar, newRow, run_newObj]
    rfl
  · rw [hzero]; exact denL_cv _ _ _ _

theorem does_box {t : TypeId} {I : TyI} {a : Operand} {xa : AV} {cs : List AV} {blk : Blk} (ho : o.op = .box t a) (hr : Rel wc ok0 fp ι h w) (ha : Den w (okN wc ok0 ι h) ι xa (ρ a))
    (hc : cellsA xa = some cs) (hb : varBlk t I cs = some blk) : Does P ρ o wc ok0 fp ι h w (.ptr h.length 0) (h ++ [blk]) := by
  obtain ⟨h1, _, _⟩ := cellsA_spec hc ha
  refine does_new (cells := (ρ a).cells) (T := t) (c := I.sh.rooms) (v := .pointer (some ⟨w.heap.size, 0, none⟩)) hr rfl ?_ (fun w' ok' ι' hk hcar hnew => varBlk_at hb (ok := okN wc ok0 ι h) (ι := ι) h1 hk hcar hnew)
  simp only [execOp, ho, Instr.box, Sem.run_bind, Sem.run_pure, newVar, newRow, run_newObj, Result.andThen_ok]
  rfl

/-- A store: the blocks behind it, and what must hold. -/
def storeA (hp : List Blk) (I : TyI) (a : AV) (vs : List AV) : Option (List Blk × Prop) :=
  match a with
  | .ptr n o => match hp[n]? with
    | some (.box T cs) => some (hp.set n (.box T (splice cs o vs)), vs.length = I.size ∧ o + I.size ≤ cs.length)
    | _ => none
  | .rptr n m i j => match hp[n]? with
    | some (.rows e m' pl l) => if vs.all nn = true then some (hp.set n (.rows e m' pl (l.set i.toNat (splice (l.getD i.toNat []) j vs))), vs.length = I.size ∧ j + I.size ≤ m ∧ m' = m ∧ i.toNat < l.length ∧ pl ≠ 3) else none
    | _ => none
  | _ => none

theorem run_storeVar_cells {t : TypeId} {I : TyI} (hI : tyi P t = some I) {b off : Nat} {cur : Array Value} {T : TypeId} {fz : Nat × Nat} (hb : w.heap[b]? = some (.cells cur T fz)) (hf : fz.2 ≤ fz.1 ∨ cur.size ≤ fz.1)
    (hs : v.cells.toList.length = I.size) (hl : off + I.size ≤ cur.size) (h1 : ∀ u ∈ v.cells.toList, u.oneCell' = true) :
    ∃ w', (storeVar t ⟨b, off, none⟩ v).run P w = .ok () w' ∧ w'.os = w.os ∧ w'.tape = w.tape ∧ w'.output = w.output ∧ w'.heap.size = w.heap.size ∧ (∀ k, k ≠ b → w'.heap[k]? = w.heap[k]?) ∧
      ∃ cur', w'.heap[b]? = some (.cells cur' T fz) ∧ cur'.size = cur.size ∧ ∀ j, cur'[j]? = if off ≤ j ∧ j < off + I.size then v.cells.toList[j - off]? else cur[j]? := by
  obtain ⟨i, z, hi, hz, hsz, _⟩ := tyi_info hI
  obtain ⟨w', hw, e1, e2, e3, e4, e5, cur', hb', hs', hg⟩ := run_storeCells_row (P := P) b off T fz v.cells.toList 0 cur w hb hf (by omega) h1
  refine ⟨w', ?_, e1, e2, e3, e4, e5, cur', hb', hs', fun j => by have := hg j; rw [hs] at this; simpa using this⟩
  have hsize : (Go.sizeOf t).run P w = .ok v.cells.size w := by
    rw [run_sizeOf _ hi]; simp only [Program.cellsOf, hi, Option.map_some, Option.getD_some, hsz, ← hs, Array.length_toList]
  simp only [storeVar, Sem.run_bind, hsize, Result.andThen_ok, ne_eq, not_true_eq_false, if_false, Sem.run_pure, hw]

theorem all_one_splice {r vs : List AV} (hr : r.all one = true) (hv : vs.all one = true) : ∀ j : Nat, (splice r j vs).all one = true := by
  have ov : ∀ (r vs : List AV), r.all one = true → vs.all one = true → (overlay r vs).all one = true := by
    intro r
    induction r with
    | nil => intro vs _ _; cases vs <;> simp [overlay]
    | cons c r ih =>
      intro vs h1 h2
      cases vs with
      | nil => simpa [overlay] using h1
      | cons v vs =>
        simp only [List.all_cons, Bool.and_eq_true, overlay] at *
        exact ⟨h2.1, ih vs h1.2 h2.2⟩
  induction r with
  | nil => intro j; cases j <;> simp [splice]; cases vs <;> simp [overlay]
  | cons c r ih =>
    intro j
    cases j with
    | zero => exact ov _ _ hr hv
    | succ j =>
      simp only [List.all_cons, Bool.and_eq_true, splice] at *
      exact ⟨hr.1, ih hr.2 j⟩
theorem all_one_set {l : List (List AV)} {vs : List AV} (h1 : l.flatten.all one = true) (h2 : vs.all one = true) (j : Nat) {i : Nat} (hi : l[i]? = some (l.getD i [])) :
    (l.set i (splice (l.getD i []) j vs)).flatten.all one = true := by
  rw [List.all_eq_true] at *
  intro x hx
  obtain ⟨r, hr, hxr⟩ := List.mem_flatten.1 hx
  rcases List.mem_or_eq_of_mem_set hr with h3 | rfl
  · exact h1 x (List.mem_flatten.2 ⟨r, h3, hxr⟩)
  · have hrow : (l.getD i []).all one = true := List.all_eq_true.2 fun y hy => h1 y (List.mem_flatten.2 ⟨_, List.mem_of_getElem? hi, hy⟩)
    exact (List.all_eq_true.1 (all_one_splice hrow (List.all_eq_true.2 h2) j)) x hxr

theorem does_store {t : TypeId} {I : TyI} {a y : Operand} {xa ya : AV} {vs : List AV} {p : Prop} (ho : o.op = .store t a y) (hI : tyi P t = some I) (hr : Rel wc ok0 fp ι h w)
    (ha : Den w (okN wc ok0 ι h) ι xa (ρ a)) (hy : Den w (okN wc ok0 ι h) ι ya (ρ y)) (hvs : cellsA ya = some vs) (hl : storeA h I xa vs = some (h', p)) (hp : p) :
    Does P ρ o wc ok0 fp ι h w .any h' := by
  obtain ⟨d1, d2, d3⟩ := cellsA_spec hvs hy
  have hlen := denL_length d1
  cases xa <;> simp only [storeA, reduceCtorEq] at hl
  case ptr n off =>
    obtain ⟨b, c, hi, hpt⟩ := ha
    cases hn : h[n]? with
    | none => rw [hn] at hl; simp at hl
    | some blk =>
      rw [hn] at hl
      cases blk with
      | dead => simp at hl
      | obj ob => simp at hl
      | rows e m pl l => simp at hl
      | box T cs =>
        simp only [Option.some.injEq, Prod.mk.injEq] at hl
        obtain ⟨rfl, rfl⟩ := hl
        obtain ⟨p1, p2⟩ := hp
        obtain ⟨us, fz, hb, hf, hd⟩ := hr.get hn rfl hi
        have hus := denL_length hd
        simp only [Array.length_toList] at hus
        obtain ⟨w', hw, e1, e2, e3, e4, e5, cur', hb', hs', hg⟩ := run_storeVar_cells hI hb hf (v := ρ y) (off := off) (by omega) (by omega) d3
        obtain ⟨hr', hk'⟩ := hr.turn (w' := w') (blk' := .box T (splice cs off vs)) hi hn rfl rfl e1 e2 e3 e4 e5 (fun hk => by
          refine ⟨cur', fz, hb', by rw [hs']; exact hf, denL_iff.2 ⟨by have hc : cur'.toList.length = cur'.size := Array.length_toList; rw [splice_length]; omega, fun j x hx => ?_⟩⟩
          rw [splice_get _ _ _ _ (by omega)] at hx
          have hgj := hg j
          by_cases hin : off ≤ j ∧ j < off + vs.length
          · rw [if_pos hin] at hx
            obtain ⟨u, hu, hdu⟩ := (denL_iff.1 d1).2 _ x hx
            rw [if_pos (by omega)] at hgj
            exact ⟨u, by simpa using hgj.trans hu, hdu.keep' hk (carried_refl _)⟩
          · rw [if_neg hin] at hx
            obtain ⟨u, hu, hdu⟩ := (denL_iff.1 hd).2 _ x hx
            rw [if_neg (by omega)] at hgj
            exact ⟨u, by simpa using hgj.trans (by simpa using hu), hdu.keep' hk (carried_refl _)⟩)
        refine ⟨undef, w', ι, .inr ⟨?_, rfl⟩, hr', hk', carried_refl _, trivial⟩
        simp only [execOp, ho, hpt, Instr.storeAt, Instr.sureAddr, Sem.run_bind, Sem.run_pure, Result.andThen_ok, hw]
  case rptr n m i j0 =>
    obtain ⟨b, c, hi, hpt⟩ := ha
    cases hn : h[n]? with
    | none => rw [hn] at hl; simp at hl
    | some blk =>
      rw [hn] at hl
      cases blk with
      | dead => simp at hl
      | obj ob => simp at hl
      | box T cs => simp at hl
      | rows e m' pl l =>
        simp only at hl
        split at hl
        · rename_i hnn
          simp only [Option.some.injEq, Prod.mk.injEq] at hl
          obtain ⟨rfl, rfl⟩ := hl
          obtain ⟨p1, p2, rfl, p4, p5⟩ := hp
          obtain ⟨cells, fz, us, hb, hf, hpl, hsz, hmx, htake, hd, hrows, hones⟩ := hr.get hn rfl hi
          have hrow : l[i.toNat]? = some (l.getD i.toNat []) := by simp [List.getD, List.getElem?_eq_getElem p4]
          have hrl := hrows _ (List.mem_of_getElem? hrow)
          have hfl := flatten_len hrows
          have hul := denL_length hd
          have hcap : us.length ≤ cells.size := by
            have := congrArg List.length htake
            simp only [List.length_take, Array.length_toList] at this; omega
          have hbound : i.toNat * m' + j0 + I.size ≤ us.length := by
            rw [← hul, hfl]
            have : (i.toNat + 1) * m' ≤ l.length * m' := Nat.mul_le_mul_right _ p4
            rw [Nat.add_mul] at this; omega
          obtain ⟨w', hw, e1, e2, e3, e4, e5, cur', hb', hs', hg⟩ := run_storeVar_cells hI hb (hf p5) (v := ρ y) (off := i.toNat * m' + j0) (by omega) (by omega) d3
          have hrows' : ∀ r ∈ l.set i.toNat (splice (l.getD i.toNat []) j0 vs), r.length = m' := by
            intro r hrm
            rcases List.mem_or_eq_of_mem_set hrm with h1 | rfl
            · exact hrows _ h1
            · rw [splice_length]; exact hrl
          obtain ⟨hr', hk'⟩ := hr.turn (w' := w') (blk' := .rows e m' pl (l.set i.toNat (splice (l.getD i.toNat []) j0 vs))) hi hn rfl rfl e1 e2 e3 e4 e5 (fun hk => by
            refine ⟨cur', fz, cur'.toList.take us.length, hb', by rw [hs']; exact hf, ⟨hpl.1, fun e => by rw [List.length_set]; exact hpl.2 e⟩, by rw [hs']; exact hsz, hmx, by simp, denL_iff.2 ⟨?_, fun k x hx => ?_⟩, hrows', ?_⟩
            · have hc : cur'.toList.length = cur'.size := Array.length_toList
              rw [flatten_len hrows', List.length_set, ← hfl, hul, List.length_take]; omega
            · have hkl : k < us.length := by
                have := (List.getElem?_eq_some_iff.1 hx).1
                rw [flatten_len hrows', List.length_set, ← hfl, hul] at this; exact this
              have hm0 : 0 < m' := by
                rcases Nat.eq_zero_or_pos m' with h0 | h0
                · rw [← hul, hfl, h0] at hkl; omega
                · exact h0
              have hgk := hg k
              rw [List.getElem?_take, if_pos hkl]
              -- the row and the place in it
              have hdm : k / m' * m' + k % m' = k := Nat.div_add_mod' k m'
              have hmod := Nat.mod_lt k hm0
              have hq : k / m' < l.length := by
                rw [← hul, hfl] at hkl
                exact (Nat.div_lt_iff_lt_mul hm0).2 hkl
              obtain ⟨r, hrk⟩ : ∃ r, (l.set i.toNat (splice (l.getD i.toNat []) j0 vs))[k / m']? = some r := ⟨_, List.getElem?_eq_getElem (by simpa using hq)⟩
              have hx' := flatten_get hrows' hrk hmod
              rw [hdm] at hx'
              rw [hx'] at hx
              by_cases hrow_eq : k / m' = i.toNat
              · rw [hrow_eq, List.getElem?_set_self p4] at hrk
                cases hrk
                rw [splice_get _ _ _ _ (by omega)] at hx
                by_cases hin : j0 ≤ k % m' ∧ k % m' < j0 + vs.length
                · rw [if_pos hin] at hx
                  obtain ⟨u, hu, hdu⟩ := (denL_iff.1 d1).2 _ x hx
                  rw [hrow_eq] at hdm
                  rw [if_pos (by omega)] at hgk
                  refine ⟨u, ?_, nn_den ?_ (hdu.keep' hk (carried_refl _))⟩
                  · rw [show k - (i.toNat * m' + j0) = k % m' - j0 by omega] at hgk
                    simpa using hgk.trans hu
                  · exact (List.all_eq_true.1 hnn) x (List.mem_of_getElem? hx)
                · rw [if_neg hin] at hx
                  have h2 := flatten_get hrows hrow hmod
                  rw [← hrow_eq, hdm] at h2
                  rw [hrow_eq] at hdm
                  rw [hrow_eq] at h2
                  rw [if_neg (by omega)] at hgk
                  obtain ⟨u, hu, hdu⟩ := (denL_iff.1 hd).2 k x (by rw [h2]; exact hx)
                  refine ⟨u, ?_, hdu.keep' hk (carried_refl _)⟩
                  rw [← htake, List.getElem?_take, if_pos hkl] at hu
                  simpa using hgk.trans (by simpa using hu)
              · rw [List.getElem?_set_ne (by omega)] at hrk
                have h2 := flatten_get hrows hrk hmod
                rw [hdm] at h2
                have hnot : ¬ (i.toNat * m' + j0 ≤ k ∧ k < i.toNat * m' + j0 + I.size) := by
                  rintro ⟨a1, a2⟩
                  apply hrow_eq
                  rw [Nat.div_eq_iff hm0]
                  constructor
                  · omega
                  · omega
                rw [if_neg hnot] at hgk
                obtain ⟨u, hu, hdu⟩ := (denL_iff.1 hd).2 k x (by rw [h2]; exact hx)
                refine ⟨u, ?_, hdu.keep' hk (carried_refl _)⟩
                rw [← htake, List.getElem?_take, if_pos hkl] at hu
                simpa using hgk.trans (by simpa using hu)
            · exact all_one_set hones d2 _ hrow)
          refine ⟨undef, w', ι, .inr ⟨?_, rfl⟩, hr', hk', carried_refl _, trivial⟩
          simp only [execOp, ho, hpt, Instr.storeAt, Instr.sureAddr, Sem.run_bind, Sem.run_pure, Result.andThen_ok, hw]
        · cases hl
end
end SX

/- SX: more operations: addresses, arithmetic, strings, slices. -/
namespace SX
open Go

section
variable {P : Program} {ρ : Operand → Value} {o : Oper} {wc : World} {ok0 : Nat → Prop} {fp : List Nat} {ι : Names'} {h h' : List Blk} {w w' : World} {x : AV} {v : Value}

/-- A field's address. -/
def fieldAddrA (I : TyI) (f : Nat) (a : AV) : Option AV :=
  match I.sh with
  | .struct fs => match fs[f]? with
    | some (off, size) => if size = 0 then none else match a with
      | .ptr n o => some (.ptr n (o + off))
      | .rptr n m i j => some (.rptr n m i (j + off))
      | .dptr r o => some (.dptr r (o + off))
      | _ => none
    | none => none
  | _ => none

theorem does_fieldAddr {t : TypeId} {I : TyI} {a : Operand} {f : Nat} {xa : AV} (ho : o.op = .fieldAddr t a f) (hI : tyi P t = some I) (hr : Rel wc ok0 fp ι h w) (ha : Den w (okN wc ok0 ι h) ι xa (ρ a))
    (hl : fieldAddrA I f xa = some x) : Does P ρ o wc ok0 fp ι h w x h := by
  unfold fieldAddrA at hl
  split at hl
  · rename_i fs hsh
    obtain ⟨fields, hu, hfs, _⟩ := tyi_struct hI hsh
    split at hl
    · rename_i off size hf
      split at hl
      · cases hl
      · rename_i hsz
        rw [hfs] at hf
        simp only [List.getElem?_map, Option.map_eq_some_iff] at hf
        obtain ⟨fd, hfd, he⟩ := hf
        cases he
        have hfd' : fields[f]? = some fd := by simpa using hfd
        have hplace : ∀ a : Addr, (fieldPlace a fd).run P w = .ok (a.add fd.offset) w := by
          intro a
          obtain ⟨i, hi⟩ : ∃ i, P.info? fd.type = some i := by
            cases hi : P.info? fd.type with
            | none => rw [hi] at hsz; simp at hsz
            | some i => exact ⟨i, rfl⟩
          have hs : (Go.sizeOf fd.type).run P w = .ok i.size w := by
            rw [run_sizeOf _ hi]; simp [Program.cellsOf, hi]
          rw [hi] at hsz
          simp only [fieldPlace, Sem.run_bind, hs, Result.andThen_ok]
          rw [if_neg (by simpa using hsz)]
          rfl
        have hrun : ∀ b off0, ρ a = .pointer (some ⟨b, off0, none⟩) → (execOp ρ o).run P w = .ok (.value (.pointer (some ⟨b, off0 + fd.offset, none⟩))) w := by
          intro b off0 he
          simp only [execOp, ho, Instr.fieldAt, Sem.run_bind, run_underlying hu, Result.andThen_ok, hfd', he, Instr.sureAddr, Sem.run_pure, hplace, add_eq]
        split at hl
        · cases hl
          obtain ⟨b, c, hi, he⟩ := ha
          exact Does.quiet hr (hrun _ _ he) ⟨b, c, hi, rfl⟩
        · cases hl
          obtain ⟨b, c, hi, he⟩ := ha
          exact Does.quiet hr (hrun _ _ he) ⟨b, c, hi, by rw [Nat.add_assoc]⟩
        · cases hl
          obtain ⟨b, o', he, hc⟩ := ha
          exact Does.quiet hr (hrun _ _ he) ⟨b, o', by rw [Nat.add_assoc], hc⟩
        · cases hl
    · cases hl
  · cases hl

/-- An element's address. -/
def indexAddrA (I : TyI) (a : AV) (i : Int) : Option (AV × Prop) :=
  match I.sh, a with
  | .arr n _ m, .ptr b 0 => some (.rptr b m i 0, 0 ≤ i ∧ i < n)
  | .arr n _ m, .ptr b (o + 1) => match i with
    | .ofNat j => some (.ptr b (o + 1 + j * m), j < n)
    | _ => none
  | .slice _ m _ _, .xs m' l => some (.dptr (l.getD i.toNat []) 0, 0 ≤ i ∧ i < l.length ∧ m' = m)
  | .slice _ m _ _, .own b m' o' len => some (.rptr b m (o' + i) 0, 0 ≤ i ∧ i < len ∧ m' = m)
  | _, _ => none

theorem run_indexAt_slice {t e m by' : Nat} {zr : List AV} {I : TyI} (hI : tyi P t = some I) (hs : I.sh = .slice e m by' zr) {a : Addr} {len cap : Nat} {k : IntKind} {i : Int} (h0 : 0 ≤ i) (h1 : i < len) :
    (Instr.indexAt t (.slice (some a) len cap) (.int k i)).run P w = .ok (.pointer (some (a.add (i.toNat * m)))) w := by
  obtain ⟨hu, ie, ze, hie, hze, hsz, _⟩ := tyi_slice hI hs
  have hs' : (Go.sizeOf e).run P w = .ok m w := by rw [run_sizeOf _ hie]; simp [Program.cellsOf, hie, hsz]
  simp only [Instr.indexAt, asIntOf, Sem.run_bind, Sem.run_pure, Result.andThen_ok, run_underlying hu, Bool.and_false]
  rw [if_pos ⟨h0, h1⟩]
  simp [hs']

theorem run_indexAt_arr {t e m n : Nat} {I : TyI} (hI : tyi P t = some I) (hs : I.sh = .arr n e m) {a : Addr} {k : IntKind} {i : Int} (h0 : 0 ≤ i) (h1 : i < n) :
    (Instr.indexAt t (.pointer (some a)) (.int k i)).run P w = .ok (.pointer (some (a.add (i.toNat * m)))) w := by
  obtain ⟨hu, ie, hie, hsz⟩ := tyi_arr hI hs
  have hs' : (Go.sizeOf e).run P w = .ok m w := by rw [run_sizeOf _ hie]; simp [Program.cellsOf, hie, hsz]
  simp only [Instr.indexAt, asIntOf, Sem.run_bind, Sem.run_pure, Result.andThen_ok, run_underlying hu, Instr.sureAddr]
  rw [if_pos ⟨h0, h1⟩]
  simp [hs']

theorem denRows_get {ok : Nat → Prop} {m : Nat} {a : Option Addr} : ∀ {l : List (List AV)} {s : Nat} (_ : DenRows w ok m a s l) {i : Nat} {r : List AV} (_ : l[i]? = some r),
    r.length = m ∧ ∃ ad, a = some ad ∧ ad.spot = none ∧ DenCells w ok ad.block (ad.off + (s + i) * m) r
  | [], s, _, i, r, hr => by simp at hr
  | c :: l, s, ⟨hc, hl⟩, 0, r, hr => by simp at hr; subst hr; exact hc
  | c :: l, s, ⟨hc, hl⟩, i + 1, r, hr => by
    have := denRows_get hl (i := i) (r := r) (by simpa using hr)
    rw [show s + 1 + i = s + (i + 1) by omega] at this
    exact this

theorem does_indexAddr {t : TypeId} {I : TyI} {a ix : Operand} {xa : AV} {k : IntKind} {i : Int} {p : Prop} (ho : o.op = .indexAddr t a ix) (hI : tyi P t = some I) (hr : Rel wc ok0 fp ι h w)
    (ha : Den w (okN wc ok0 ι h) ι xa (ρ a)) (hi : Den w (okN wc ok0 ι h) ι (.int k i) (ρ ix)) (hl : indexAddrA I xa i = some (x, p)) (hp : p) : Does P ρ o wc ok0 fp ι h w x h := by
  simp only [Den] at hi
  have hex : ∀ v, (Instr.indexAt t (ρ a) (.int k i)).run P w = .ok v w → (execOp ρ o).run P w = .ok (.value v) w := by
    intro v hv; simp only [execOp, ho, hi, Sem.run_bind, hv, Result.andThen_ok, Sem.run_pure]
  unfold indexAddrA at hl
  split at hl
  · rename_i hsh
    simp only [Option.some.injEq, Prod.mk.injEq] at hl
    obtain ⟨rfl, rfl⟩ := hl
    obtain ⟨b, c, hb, he⟩ := ha
    refine Does.quiet hr (hex _ (by rw [he]; exact run_indexAt_arr hI hsh hp.1 hp.2)) ⟨b, c, hb, ?_⟩
    rw [add_eq]; simp
  · rename_i hsh
    split at hl
    · rename_i n e m b o' j
      simp only [Option.some.injEq, Prod.mk.injEq] at hl
      obtain ⟨rfl, rfl⟩ := hl
      obtain ⟨b', c, hb, he⟩ := ha
      refine Does.quiet hr (hex _ (by rw [he]; exact run_indexAt_arr hI hsh (Int.natCast_nonneg _) (Int.ofNat_lt.2 hp))) ⟨b', c, hb, ?_⟩
      rw [add_eq]; simp
    · cases hl
  · rename_i hsh
    simp only [Option.some.injEq, Prod.mk.injEq] at hl
    obtain ⟨rfl, rfl⟩ := hl
    obtain ⟨a0, cap, he, hcap, hrows⟩ := ha
    obtain ⟨p1, p2, rfl⟩ := hp
    rename_i m' l
    have hlt : i.toNat < l.length := by omega
    obtain ⟨hrl, ad, had, hspot, hcells⟩ := denRows_get hrows (i := i.toNat) (r := l.getD i.toNat []) (by simp [List.getD, List.getElem?_eq_getElem hlt])
    subst had
    obtain ⟨ab, ao, asp⟩ := ad
    simp only at hspot; subst hspot
    refine Does.quiet hr (hex _ (by rw [he]; exact run_indexAt_slice hI hsh p1 p2)) ⟨ab, ao + i.toNat * m', ?_, ?_⟩
    · rw [add_eq]; simp
    · simpa using hcells
  · rename_i hsh
    simp only [Option.some.injEq, Prod.mk.injEq] at hl
    obtain ⟨rfl, rfl⟩ := hl
    obtain ⟨b', c, ad, hb, hlen, had, he⟩ := ha
    obtain ⟨p1, p2, rfl⟩ := hp
    refine Does.quiet hr (hex _ (by rw [he]; exact run_indexAt_slice hI hsh p1 p2)) ⟨b', c, hb, ?_⟩
    rw [add_eq, had (by omega), Nat.add_zero, ← Nat.add_mul]
    congr 5
    omega
  · cases hl

/-- Bits of whole numbers. -/
def andI (k : IntKind) (a b : Int) : Int := ((BitVec.ofInt k.bits a &&& BitVec.ofInt k.bits b).toNat : Int)
def orI (k : IntKind) (a b : Int) : Int := ((BitVec.ofInt k.bits a ||| BitVec.ofInt k.bits b).toNat : Int)
def xorI (k : IntKind) (a b : Int) : Int := ((BitVec.ofInt k.bits a ^^^ BitVec.ofInt k.bits b).toNat : Int)
def andNotI (k : IntKind) (a b : Int) : Int := ((BitVec.ofInt k.bits a &&& ~~~ BitVec.ofInt k.bits b).toNat : Int)
theorem ofInt_nat (n a : Nat) (h : a < 2 ^ n) : (BitVec.ofInt n (a : Int)).toNat = a := by
  rw [BitVec.toNat_ofInt]
  have : ((a : Int) % ((2 ^ n : Nat) : Int)).toNat = a % 2 ^ n := by omega
  rw [this, Nat.mod_eq_of_lt h]
theorem andI_nat {k : IntKind} {a b : Nat} (ha : a < 2 ^ k.bits) (hb : b < 2 ^ k.bits) : andI k a b = ((a &&& b : Nat) : Int) := by
  unfold andI; rw [BitVec.toNat_and, ofInt_nat _ _ ha, ofInt_nat _ _ hb]
theorem orI_nat {k : IntKind} {a b : Nat} (ha : a < 2 ^ k.bits) (hb : b < 2 ^ k.bits) : orI k a b = ((a ||| b : Nat) : Int) := by
  unfold orI; rw [BitVec.toNat_or, ofInt_nat _ _ ha, ofInt_nat _ _ hb]
theorem xorI_nat {k : IntKind} {a b : Nat} (ha : a < 2 ^ k.bits) (hb : b < 2 ^ k.bits) : xorI k a b = ((a ^^^ b : Nat) : Int) := by
  unfold xorI; rw [BitVec.toNat_xor, ofInt_nat _ _ ha, ofInt_nat _ _ hb]

/-- Arithmetic on whole numbers. `nw`: sums stay in range (a condition), else they wrap. -/
def arithA (op : BinOp) (k : IntKind) (a b : Int) : Option (AV × Prop) :=
  match op with
  | .add => some (.int k (k.wrap (a + b)), True)
  | .sub => some (.int k (k.wrap (a - b)), True)
  | .mul => some (.int k (k.wrap (a * b)), True)
  | .quo => some (.int k (k.wrap (a.tdiv b)), b ≠ 0)
  | .rem => some (.int k (a.tmod b), b ≠ 0)
  | .and => some (.int k (k.wrap (andI k a b)), True)
  | .or => some (.int k (k.wrap (orI k a b)), True)
  | .xor => some (.int k (k.wrap (xorI k a b)), True)
  | .andNot => some (.int k (k.wrap (andNotI k a b)), True)
  | .eql => some (.bool (a == b), True)
  | .neq => some (.bool (a != b), True)
  | .lss => some (.bool (decide (a < b)), True)
  | .leq => some (.bool (decide (a ≤ b)), True)
  | .gtr => some (.bool (decide (b < a)), True)
  | .geq => some (.bool (decide (b ≤ a)), True)
  | _ => none

def binInt (op : BinOp) (k : IntKind) (x : Int) (k' : IntKind) (y : Int) : Option (AV × Prop) :=
  match op with
  | .shl => some (.int k (k.wrap (x * 2 ^ min y.toNat k.bits)), 0 ≤ y)
  | .shr => some (.int k (x.fdiv (2 ^ min y.toNat k.bits)), 0 ≤ y)
  | op => if k = k' then arithA op k x y else none
def binStr (op : BinOp) (s t : List UInt8) : Option (AV × Prop) :=
  match op with
  | .add => some (.str (s ++ t), s.length + t.length ≤ 9223372036854775807)
  | .eql => some (.bool (s == t), True)
  | .neq => some (.bool (s != t), True)
  | .lss => some (.bool (Op.bytesLess s t), True)
  | _ => none
def binBool (op : BinOp) (s t : Bool) : Option (AV × Prop) :=
  match op with
  | .eql => some (.bool (s == t), True)
  | .neq => some (.bool (s != t), True)
  | _ => none
def binA (op : BinOp) : AV → AV → Option (AV × Prop)
  | .int k x, .int k' y => binInt op k x k' y
  | .str s, .str t => binStr op s t
  | .bool s, .bool t => binBool op s t
  | _, _ => none

theorem ba_toList (s : List UInt8) : (⟨s.toArray⟩ : ByteArray).toList = s := ByteArray.toList_mk s
theorem ba_size (s : List UInt8) : (⟨s.toArray⟩ : ByteArray).size = s.length := by simp [ByteArray.size]
theorem ba_append (s t : List UInt8) : (⟨s.toArray⟩ : ByteArray) ++ ⟨t.toArray⟩ = ⟨(s ++ t).toArray⟩ := by
  apply ByteArray.ext
  simp [ByteArray.data_append]

theorem run_intArith (op : BinOp) (k : IntKind) (a b : Int) {p : Prop} (t : TypeId) (h1 : op ≠ .shl) (h2 : op ≠ .shr) (he : arithA op k a b = some (x, p)) (hp : p) :
    ∃ v, (binOp op t (.int k a) (.int k b)).run P w = .ok v w ∧ ∀ ok ι, Den w ok ι x v := by
  cases op <;> simp only [arithA, reduceCtorEq, Option.some.injEq, Prod.mk.injEq, ne_eq, not_true_eq_false] at he h1 h2
  all_goals obtain ⟨rfl, rfl⟩ := he
  all_goals simp only [binOp, ne_eq, not_true_eq_false, if_false, Op.intArith, Op.intDiv, Op.intBits, Op.intCmp, Sem.run_pure, Sem.run_ite]
  all_goals first
    | (rw [if_neg hp]; exact ⟨_, rfl, fun _ _ => rfl⟩)
    | exact ⟨_, rfl, fun _ _ => rfl⟩

theorem eqGuard_one (op : BinOp) (t : TypeId) (xo yo : Operand) (a b : Value) (h : (∃ k n, a = .int k n) ∨ (∃ s, a = .string s) ∨ (∃ s, a = .bool s)) :
    (eqGuard op t xo yo a b).run P w = .ok () w := by
  rcases h with ⟨k, n, rfl⟩ | ⟨s, rfl⟩ | ⟨s, rfl⟩ <;> cases op <;> rfl

theorem does_bin {op : BinOp} {t yt : TypeId} {a b : Operand} {xa xb : AV} {p : Prop} (ho : o.op = .binOp op t a b yt) (hr : Rel wc ok0 fp ι h w)
    (ha : Den w (okN wc ok0 ι h) ι xa (ρ a)) (hb : Den w (okN wc ok0 ι h) ι xb (ρ b)) (hl : binA op xa xb = some (x, p)) (hp : p)
    (hu : ∀ c, xa = .bool c → P.underlying t = some .bool) : Does P ρ o wc ok0 fp ι h w x h := by
  have hex : ∀ v, (eqGuard op t a b (ρ a) (ρ b)).run P w = .ok () w → (binOp op t (ρ a) (ρ b)).run P w = .ok v w → (execOp ρ o).run P w = .ok (.value v) w := by
    intro v hg hv; simp only [execOp, ho, Sem.run_bind, hg, hv, Result.andThen_ok, Sem.run_pure]
  cases xa <;> try (simp only [binA, reduceCtorEq] at hl; done)
  case int k n =>
    cases xb <;> try (simp only [binA, reduceCtorEq] at hl; done)
    rename_i k' n'
    simp only [Den] at ha hb
    have hg : (eqGuard op t a b (ρ a) (ρ b)).run P w = .ok () w := eqGuard_one _ _ _ _ _ _ (.inl ⟨_, _, ha⟩)
    simp only [binA] at hl
    by_cases h1 : op = .shl
    · subst h1
      simp only [binInt, Option.some.injEq, Prod.mk.injEq] at hl
      obtain ⟨rfl, rfl⟩ := hl
      refine Does.quiet hr (hex _ hg ?_) rfl
      rw [ha, hb]; simp only [binOp, Op.shift]; rw [if_neg (by omega)]; rfl
    by_cases h2 : op = .shr
    · subst h2
      simp only [binInt, Option.some.injEq, Prod.mk.injEq] at hl
      obtain ⟨rfl, rfl⟩ := hl
      refine Does.quiet hr (hex _ hg ?_) rfl
      rw [ha, hb]; simp only [binOp, Op.shift]; rw [if_neg (by omega)]; rfl
    have hl' : (if k = k' then arithA op k n n' else none) = some (x, p) := by
      rw [← hl]; cases op <;> first | rfl | (exact absurd rfl h1) | (exact absurd rfl h2)
    split at hl'
    · rename_i hk
      subst hk
      obtain ⟨v, hv, hd⟩ := run_intArith (P := P) (w := w) op k n n' t h1 h2 hl' hp
      exact Does.quiet hr (hex v hg (by rw [ha, hb]; exact hv)) (hd _ _)
    · cases hl'
  case str s =>
    cases xb <;> try (simp only [binA, reduceCtorEq] at hl; done)
    rename_i s'
    simp only [Den] at ha hb
    have hg : (eqGuard op t a b (ρ a) (ρ b)).run P w = .ok () w := eqGuard_one _ _ _ _ _ _ (.inr (.inl ⟨_, ha⟩))
    simp only [binA] at hl
    have hbin : ∀ op, binOp op t (.string ⟨s.toArray⟩) (.string ⟨s'.toArray⟩) = Op.stringOp op ⟨s.toArray⟩ ⟨s'.toArray⟩ := by intro op; cases op <;> rfl
    cases op <;> simp only [binStr, reduceCtorEq, Option.some.injEq, Prod.mk.injEq] at hl <;> obtain ⟨rfl, rfl⟩ := hl
    · refine Does.quiet hr (hex (.string ⟨(s ++ s').toArray⟩) hg ?_) rfl
      rw [ha, hb, hbin]; simp only [Op.stringOp, ba_size, ba_append, Sem.run_ite, Sem.run_pure, run_unsupported]
      rw [if_neg (by simp only [IntKind.max, IntKind.bits, IntKind.signed]; simp; omega)]
    all_goals
      refine Does.quiet hr (hex _ hg ?_) rfl
      rw [ha, hb, hbin]; simp only [Op.stringOp, ba_toList, Sem.run_pure, bne]
  case bool s =>
    cases xb <;> try (simp only [binA, reduceCtorEq] at hl; done)
    rename_i s'
    simp only [Den] at ha hb
    have hut := hu _ rfl
    have hg : (eqGuard op t a b (ρ a) (ρ b)).run P w = .ok () w := eqGuard_one _ _ _ _ _ _ (.inr (.inr ⟨_, ha⟩))
    simp only [binA] at hl
    cases op <;> simp only [binBool, reduceCtorEq, Option.some.injEq, Prod.mk.injEq] at hl <;> obtain ⟨rfl, rfl⟩ := hl
    all_goals
      refine Does.quiet hr (hex _ hg ?_) rfl
      rw [ha, hb]; simp only [binOp, Sem.run_bind, Go.run_equal_bool w t _ _ hut, Result.andThen_ok, Sem.run_pure, bne]
end
end SX

/- SX: more operations: values, strings, slices, new slices. -/
namespace SX
open Go

section
variable {P : Program} {ρ : Operand → Value} {o : Oper} {wc : World} {ok0 : Nat → Prop} {fp : List Nat} {ι : Names'} {h h' : List Blk} {w w' : World} {x : AV} {v : Value}

theorem does_move {a : Operand} {xa : AV} (ho : o.op = .move a ∨ o.op = .assign a) (hr : Rel wc ok0 fp ι h w) (ha : Den w (okN wc ok0 ι h) ι xa (ρ a)) : Does P ρ o wc ok0 fp ι h w xa h := by
  refine Does.quiet hr (v := ρ a) ?_ ha
  rcases ho with ho | ho <;> simp only [execOp, ho, Sem.run_pure]

/-- A choice by a truth value; what is not chosen need not be there. -/
def pickA (c a b : AV) : Option (AV × Prop) :=
  match c, a, b with
  | .bool p, .bool x, .bool y => some (.bool (bif p then x else y), True)
  | .bool p, .bool x, .gd g (.bool y) => some (.bool (bif p then x else y), p = false → g = true)
  | .bool p, .gd g (.bool x), .bool y => some (.bool (bif p then x else y), p = true → g = true)
  | .bool p, .gd g (.bool x), .gd g' (.bool y) => some (.bool (bif p then x else y), (p = true → g = true) ∧ (p = false → g' = true))
  | _, _, _ => none

theorem does_pick {c a b : Operand} {xc xa xb : AV} {p : Prop} (ho : o.op = .pick c a b) (hr : Rel wc ok0 fp ι h w) (hc : Den w (okN wc ok0 ι h) ι xc (ρ c)) (ha : Den w (okN wc ok0 ι h) ι xa (ρ a))
    (hb : Den w (okN wc ok0 ι h) ι xb (ρ b)) (hl : pickA xc xa xb = some (x, p)) (hp : p) : Does P ρ o wc ok0 fp ι h w x h := by
  have hex : ∀ q, ρ c = .bool q → (execOp ρ o).run P w = .ok (.value (if q then ρ a else ρ b)) w := by
    intro q hq; simp only [execOp, ho, hq, asBool, Sem.run_bind, Sem.run_pure, Result.andThen_ok]
  unfold pickA at hl
  split at hl
  · simp only [Option.some.injEq, Prod.mk.injEq] at hl
    obtain ⟨rfl, rfl⟩ := hl
    simp only [Den] at hc ha hb
    refine Does.quiet hr (hex _ hc) ?_
    rename_i q _ _; cases q <;> simp [Den, ha, hb]
  · simp only [Option.some.injEq, Prod.mk.injEq] at hl
    obtain ⟨rfl, rfl⟩ := hl
    simp only [Den] at hc ha hb
    refine Does.quiet hr (hex _ hc) ?_
    rename_i q _ _ _; cases q
    · simp [Den, hb.1 (hp rfl)]
    · simp [Den, ha]
  · simp only [Option.some.injEq, Prod.mk.injEq] at hl
    obtain ⟨rfl, rfl⟩ := hl
    simp only [Den] at hc ha hb
    refine Does.quiet hr (hex _ hc) ?_
    rename_i q _ _ _; cases q
    · simp [Den, hb]
    · simp [Den, ha.1 (hp rfl)]
  · simp only [Option.some.injEq, Prod.mk.injEq] at hl
    obtain ⟨rfl, rfl⟩ := hl
    simp only [Den] at hc ha hb
    refine Does.quiet hr (hex _ hc) ?_
    rename_i q _ _ _ _; cases q
    · simp [Den, hb.1 (hp.2 rfl)]
    · simp [Den, ha.1 (hp.1 rfl)]
  · cases hl

/-- A nil check of what is none. -/
def solid : AV → Bool
  | .ptr _ _ | .rptr _ _ _ _ | .dptr _ _ => true
  | .func (.func _) _ _ => true
  | _ => false

theorem does_nilCheck {a : Operand} {xa : AV} (ho : o.op = .nilCheck a) (hr : Rel wc ok0 fp ι h w) (ha : Den w (okN wc ok0 ι h) ι xa (ρ a)) (hs : solid xa = true) : Does P ρ o wc ok0 fp ι h w xa h := by
  refine Does.quiet hr (v := ρ a) ?_ ha
  cases xa <;> simp only [solid, Bool.false_eq_true] at hs
  case ptr => obtain ⟨b, c, _, e⟩ := ha; simp only [execOp, ho, e, Sem.run_pure]
  case rptr => obtain ⟨b, c, _, e⟩ := ha; simp only [execOp, ho, e, Sem.run_pure]
  case dptr => obtain ⟨b, c, e, _⟩ := ha; simp only [execOp, ho, e, Sem.run_pure]
  case func fn fs cs =>
    cases fn <;> simp only [Bool.false_eq_true] at hs
    obtain ⟨vs, us, e, _⟩ := ha; simp only [execOp, ho, e, Sem.run_pure]

def unA (op : UnOp) : AV → Option AV
  | .bool b => match op with | .not => some (.bool !b) | _ => none
  | .int k n => match op with
    | .neg => some (.int k (k.wrap (0 - n)))
    | .xor => some (.int k (k.wrap (BitVec.ofInt k.bits (if k.signed then -1 else k.max) ^^^ BitVec.ofInt k.bits n).toNat))
    | _ => none
  | _ => none

theorem does_un {op : UnOp} {t : TypeId} {a : Operand} {xa : AV} (ho : o.op = .unOp op t a) (hr : Rel wc ok0 fp ι h w) (ha : Den w (okN wc ok0 ι h) ι xa (ρ a)) (hl : unA op xa = some x) : Does P ρ o wc ok0 fp ι h w x h := by
  have hex : ∀ v, (Op.unary op (ρ a)).run P w = .ok v w → (execOp ρ o).run P w = .ok (.value v) w := by
    intro v hv; simp only [execOp, ho, Sem.run_bind, hv, Result.andThen_ok, Sem.run_pure]
  cases xa <;> simp only [unA, reduceCtorEq] at hl
  case bool b =>
    simp only [Den] at ha
    cases op <;> simp only [reduceCtorEq, Option.some.injEq] at hl
    subst hl
    exact Does.quiet hr (hex _ (by rw [ha]; rfl)) rfl
  case int k n =>
    simp only [Den] at ha
    cases op <;> simp only [reduceCtorEq, Option.some.injEq] at hl
    all_goals subst hl
    · exact Does.quiet hr (hex _ (by rw [ha]; rfl)) rfl
    · exact Does.quiet hr (hex _ (by rw [ha]; rfl)) rfl

theorem does_convInt {s d : TypeId} {a : Operand} {I : TyI} {Is : TyI} {k k' : IntKind} {n : Int} (ho : o.op = .convert s d a) (hs : tyi P s = some Is) (hd : tyi P d = some I) (hk : I.sh = .int k') (hr : Rel wc ok0 fp ι h w)
    (ha : Den w (okN wc ok0 ι h) ι (.int k n) (ρ a)) : Does P ρ o wc ok0 fp ι h w (.int k' (k'.wrap n)) h := by
  simp only [Den] at ha
  obtain ⟨ds, hds, _⟩ := tyi_agg hs
  have hdd := (tyi_plain hd).1 _ hk
  refine Does.quiet hr (v := .int k' (k'.wrap n)) ?_ rfl
  simp only [execOp, ho, ha, convert, Sem.run_bind, run_underlying hds, run_underlying hdd, Result.andThen_ok, Conv.intToInt, Sem.run_pure]

theorem does_convStr {s d : TypeId} {a : Operand} {I : TyI} {Is : TyI} {l : List UInt8} (ho : o.op = .convert s d a) (hs : tyi P s = some Is) (hd : tyi P d = some I) (hk : I.sh = .str) (hr : Rel wc ok0 fp ι h w)
    (ha : Den w (okN wc ok0 ι h) ι (.str l) (ρ a)) : Does P ρ o wc ok0 fp ι h w (.str l) h := by
  simp only [Den] at ha
  obtain ⟨ds, hds, _⟩ := tyi_agg hs
  have hdd := (tyi_plain hd).2.2.1 hk
  refine Does.quiet hr (v := _) ?_ rfl
  simp only [execOp, ho, ha, convert, Sem.run_bind, run_underlying hds, run_underlying hdd, Result.andThen_ok, Sem.run_pure]

theorem does_makeIface {t : TypeId} {I : TyI} {a : Operand} {xa : AV} (ho : o.op = .makeInterface t a) (hI : tyi P t = some I) (hn : I.sh ≠ .iface) (hr : Rel wc ok0 fp ι h w) (ha : Den w (okN wc ok0 ι h) ι xa (ρ a)) :
    Does P ρ o wc ok0 fp ι h w (.iface t xa) h := by
  refine Does.quiet hr (v := .iface t (ρ a)) ?_ ⟨_, rfl, ha⟩
  obtain ⟨d, hd, _⟩ := tyi_agg hI
  have hni : ∀ ms, d ≠ .interface ms := by
    rintro ms rfl
    unfold tyi at hI
    cases hi : P.info? t with
    | none => rw [hi] at hI; cases hI
    | some i =>
      rw [hi, hd] at hI
      simp only at hI
      cases hz : i.zero with
      | none => rw [hz] at hI; cases hI
      | some z => rw [hz] at hI; simp only [Option.some.injEq] at hI; exact hn (by rw [← hI])
  simp only [execOp, ho, Instr.makeInterface, Sem.run_bind, run_underlying hd, Result.andThen_ok]
  cases d <;> first | rfl | (exact absurd rfl (hni _))

theorem denL_map {ok : Nat → Prop} (ev : Operand → AV) (hev : ∀ x, Den w ok ι (ev x) (ρ x)) : ∀ l : List Operand, DenL w ok ι (l.map ev) (l.map ρ)
  | [] => rfl
  | a :: l => ⟨ρ a, l.map ρ, rfl, hev a, denL_map ev hev l⟩

theorem does_makeFunc {fn : Fn} {first cap : Array Operand} (ev : Operand → AV) (hev : ∀ x, Den w (okN wc ok0 ι h) ι (ev x) (ρ x)) (ho : o.op = .makeFunc fn first cap) (hr : Rel wc ok0 fp ι h w) :
    Does P ρ o wc ok0 fp ι h w (.func fn (first.toList.map ev) (cap.toList.map ev)) h := by
  refine Does.quiet hr (v := .func fn (first.map ρ) (cap.map ρ)) ?_ ⟨first.toList.map ρ, cap.toList.map ρ, ?_, denL_map ev hev _, denL_map ev hev _⟩
  · simp only [execOp, ho, Instr.makeFunc, Sem.run_bind, Sem.run_pure, Result.andThen_ok]
  · simp [← Array.toList_map]

/-- A part of a value of several cells. -/
def fieldA (P : Program) (I : TyI) (f : Nat) (a : AV) : Option (AV × Prop) :=
  match I.sh, a with
  | .struct fs, .agg cs => match fs[f]? with
    | some (off, size) => some (joinA (size != 1) ((cs.drop off).take size), off + size ≤ cs.length)
    | none => none
  | _, _ => none

/-- A byte of a text. -/
def indexA (s : List UInt8) (i : Int) : AV := .int .u8 ((s.getD i.toNat 0).toNat : Int)

theorem does_indexStr {t : TypeId} {I : TyI} {a ix : Operand} {s : List UInt8} {k : IntKind} {i : Int} (ho : o.op = .index t a ix) (hI : tyi P t = some I) (hk : I.sh = .str) (hr : Rel wc ok0 fp ι h w)
    (ha : Den w (okN wc ok0 ι h) ι (.str s) (ρ a)) (hi : Den w (okN wc ok0 ι h) ι (.int k i) (ρ ix)) (h0 : 0 ≤ i) (h1 : i < s.length) : Does P ρ o wc ok0 fp ι h w (indexA s i) h := by
  simp only [Den] at ha hi
  have hu := (tyi_plain hI).2.2.1 hk
  have hlt : i.toNat < s.length := by omega
  refine Does.quiet hr (v := .int .u8 ((s.getD i.toNat 0).toNat : Int)) ?_ rfl
  have hb : ((⟨s.toArray⟩ : ByteArray)[i.toNat]? : Option UInt8) = some (s.getD i.toNat 0) := by
    have : i.toNat < (⟨s.toArray⟩ : ByteArray).size := by rw [ba_size]; exact hlt
    rw [getElem?_pos (⟨s.toArray⟩ : ByteArray) i.toNat this]
    simp [ByteArray.getElem_eq_getElem_data, List.getD, List.getElem?_eq_getElem hlt]
  simp only [execOp, ho, ha, hi, Instr.index, asIntOf, Sem.run_bind, Sem.run_pure, Result.andThen_ok, run_underlying hu, if_pos h0, hb]

theorem does_extract {a : Operand} {n : Nat} {cs : List AV} (ho : o.op = .extract a n) (hr : Rel wc ok0 fp ι h w) (ha : Den w (okN wc ok0 ι h) ι (.tup cs) (ρ a)) (hx : cs[n]? = some x) : Does P ρ o wc ok0 fp ι h w x h := by
  obtain ⟨vs, he, hd⟩ := ha
  obtain ⟨u, hu, hd'⟩ := (denL_iff.1 hd).2 n x hx
  refine Does.quiet hr (v := u) ?_ hd'
  simp only [execOp, ho, he, Instr.extract, List.getElem?_toArray, hu, Sem.run_bind, Sem.run_pure, Result.andThen_ok]

/-- A slice expression's bounds. -/
def boundA (len : Nat) : Option AV → Nat → Option (Int × Prop)
  | none, d => some (d, True)
  | some (.int _ i), _ => some (i, 0 ≤ i ∧ i ≤ len)
  | some _, _ => none

theorem run_sliceBound {k : IntKind} {i : Int} {y : Nat} {code : BoundsCode} (h0 : 0 ≤ i) (h1 : i ≤ y) : (Instr.sliceBound (.int k i) y code).run P w = .ok i.toNat w := by
  simp only [Instr.sliceBound, asIntOf, Sem.run_bind, Sem.run_pure, Result.andThen_ok, if_pos (show 0 ≤ i ∧ i ≤ (y : Int) from ⟨h0, h1⟩)]

theorem does_sliceStr {t : TypeId} {I : TyI} {a : Operand} {lo hi : Option Operand} {s : List UInt8} {l u : Int} {ql qu : Prop} (ev : Operand → AV) (hev : ∀ x, Den w (okN wc ok0 ι h) ι (ev x) (ρ x)) (ho : o.op = .slice t a lo hi none)
    (hI : tyi P t = some I) (hk : I.sh = .str) (hr : Rel wc ok0 fp ι h w) (ha : Den w (okN wc ok0 ι h) ι (.str s) (ρ a)) (hu : boundA s.length (hi.map ev) s.length = some (u, qu)) (hl : boundA u.toNat (lo.map ev) 0 = some (l, ql)) (hqu : qu) (hql : ql) :
    Does P ρ o wc ok0 fp ι h w (.str ((s.take u.toNat).drop l.toNat)) h := by
  simp only [Den] at ha
  have hty := (tyi_plain hI).2.2.1 hk
  have hU : (match hi.map ρ, (none : Option Value) with | some v, some _ => Instr.sliceBound v s.length BoundsCode.slice3B | some v, none => Instr.sliceBound v s.length BoundsCode.sliceAlen | none, none => pure s.length | none, some _ => stuck "Slice: max without high" : Sem Nat).run P w = .ok u.toNat w ∧ u.toNat ≤ s.length := by
    cases hi with
    | none => simp [boundA] at hu; obtain ⟨rfl, _⟩ := hu; exact ⟨rfl, by simp⟩
    | some x =>
      have hx := hev x
      simp only [Option.map_some] at hu ⊢
      cases he : ev x <;> rw [he] at hu hx <;> simp only [boundA, reduceCtorEq, Option.some.injEq, Prod.mk.injEq] at hu
      obtain ⟨rfl, rfl⟩ := hu
      simp only [Den] at hx
      rw [hx]; exact ⟨run_sliceBound hqu.1 hqu.2, by omega⟩
  have hL : (match lo.map ρ with | some v => Instr.sliceBound v u.toNat BoundsCode.sliceB | none => pure 0 : Sem Nat).run P w = .ok l.toNat w ∧ l.toNat ≤ u.toNat := by
    cases lo with
    | none => simp [boundA] at hl; obtain ⟨rfl, _⟩ := hl; exact ⟨rfl, by simp⟩
    | some x =>
      have hx := hev x
      simp only [Option.map_some] at hl ⊢
      cases he : ev x <;> rw [he] at hl hx <;> simp only [boundA, reduceCtorEq, Option.some.injEq, Prod.mk.injEq] at hl
      obtain ⟨rfl, rfl⟩ := hl
      simp only [Den] at hx
      rw [hx]; exact ⟨run_sliceBound hql.1 hql.2, by omega⟩
  refine Does.quiet hr (v := .string ⟨((s.take u.toNat).drop l.toNat).toArray⟩) ?_ rfl
  have hext : (⟨s.toArray⟩ : ByteArray).extract l.toNat u.toNat = ⟨((s.take u.toNat).drop l.toNat).toArray⟩ := by
    apply ByteArray.ext
    simp [ByteArray.data_extract, List.extract_eq_take_drop, List.drop_take]
  have hb : (Instr.sliceBounds false s.length s.length (lo.map ρ) (hi.map ρ) none).run P w = .ok (l.toNat, u.toNat, s.length) w := by
    have h1 := hU.1; have h2 := hL.1
    cases hi <;> cases lo <;> simp only [Option.map_none, Option.map_some] at h1 h2 ⊢ <;> simp only [Instr.sliceBounds, Sem.run_bind, Sem.run_pure, Result.andThen_ok, Bool.false_eq_true, if_false, Option.isSome_none]
    · simp only [Sem.run_pure, Result.ok.injEq, and_true] at h1 h2; rw [← h1, ← h2]
    · simp only [Sem.run_pure, Result.ok.injEq, and_true] at h1; rw [← h1] at h2 ⊢; rw [h2]; rfl
    · simp only [Sem.run_pure, Result.ok.injEq, and_true] at h2; rw [h1, ← h2]; rfl
    · rw [h1]; simp only [Result.andThen_ok]; rw [h2]; rfl
  simp only [execOp, ho, ha, Option.map_none, Instr.sliceAt, Instr.slice, Sem.run_bind, run_underlying hty, Result.andThen_ok, Option.isSome_none, Bool.false_eq_true, if_false, ba_size, Sem.run_pure, hb, hext]
end
end SX

/- SX: more operations: slices, their making and growth. -/
namespace SX
open Go Go.RowKit

section
variable {P : Program} {ρ : Operand → Value} {o : Oper} {wc : World} {ok0 : Nat → Prop} {fp : List Nat} {ι : Names'} {h h' : List Blk} {w w' : World} {x : AV} {v : Value}

theorem denRows_drop {ok : Nat → Prop} {m : Nat} {a : Option Addr} : ∀ {l : List (List AV)} {s : Nat} (k : Nat), DenRows w ok m a s l → DenRows w ok m a (s + k) (l.drop k)
  | l, s, 0, hd => by simpa using hd
  | [], s, k + 1, hd => by simp [DenRows]
  | r :: l, s, k + 1, ⟨_, hd⟩ => by
    have := denRows_drop k hd
    rw [show s + 1 + k = s + (k + 1) by omega] at this
    simpa using this
theorem denRows_take {ok : Nat → Prop} {m : Nat} {a : Option Addr} : ∀ {l : List (List AV)} {s : Nat} (k : Nat), DenRows w ok m a s l → DenRows w ok m a s (l.take k)
  | l, s, 0, hd => by simp [DenRows]
  | [], s, k + 1, hd => by simp [DenRows]
  | r :: l, s, k + 1, ⟨hr, hd⟩ => ⟨hr, denRows_take k hd⟩
theorem denRows_move {ok : Nat → Prop} {m : Nat} {ad : Addr} : ∀ {l : List (List AV)} {s k : Nat}, DenRows w ok m (some ad) (s + k) l → DenRows w ok m (some ⟨ad.block, ad.off + k * m, none⟩) s l
  | [], s, k, hd => trivial
  | r :: l, s, k, ⟨⟨hl, ad', e, hsp, hc⟩, hd⟩ => by
    cases e
    refine ⟨⟨hl, _, rfl, rfl, ?_⟩, ?_⟩
    · have : ad.off + (s + k) * m = ad.off + k * m + s * m := by rw [Nat.add_mul]; omega
      rw [this] at hc; exact hc
    · rw [show s + k + 1 = s + 1 + k by omega] at hd
      exact denRows_move hd

theorem run_bounds {lo hi : Option Operand} {len cap : Nat} {l u : Int} {ql qu : Prop} (ev : Operand → AV) {ok : Nat → Prop} (hev : ∀ x, Den w ok ι (ev x) (ρ x)) (hlc : len ≤ cap) (isS : Bool)
    (hu : boundA len (hi.map ev) len = some (u, qu)) (hl : boundA u.toNat (lo.map ev) 0 = some (l, ql)) (hqu : qu) (hql : ql) :
    (Instr.sliceBounds isS len cap (lo.map ρ) (hi.map ρ) none).run P w = .ok (l.toNat, u.toNat, cap) w ∧ l.toNat ≤ u.toNat ∧ u.toNat ≤ len := by
  have hU : ((hi.map ρ) = none ∧ u.toNat = len) ∨ (∃ k, hi.map ρ = some (.int k u) ∧ 0 ≤ u ∧ u ≤ len) := by
    cases hi with
    | none => simp [boundA] at hu; obtain ⟨rfl, _⟩ := hu; exact .inl ⟨rfl, by simp⟩
    | some x =>
      have hx := hev x
      simp only [Option.map_some] at hu ⊢
      cases he : ev x <;> rw [he] at hu hx <;> simp only [boundA, reduceCtorEq, Option.some.injEq, Prod.mk.injEq] at hu
      obtain ⟨rfl, rfl⟩ := hu
      simp only [Den] at hx
      exact .inr ⟨_, by rw [hx], hqu⟩
  have hL : ((lo.map ρ) = none ∧ l.toNat = 0) ∨ (∃ k, lo.map ρ = some (.int k l) ∧ 0 ≤ l ∧ l ≤ u.toNat) := by
    cases lo with
    | none => simp [boundA] at hl; obtain ⟨rfl, _⟩ := hl; exact .inl ⟨rfl, by simp⟩
    | some x =>
      have hx := hev x
      simp only [Option.map_some] at hl ⊢
      cases he : ev x <;> rw [he] at hl hx <;> simp only [boundA, reduceCtorEq, Option.some.injEq, Prod.mk.injEq] at hl
      obtain ⟨rfl, rfl⟩ := hl
      simp only [Den] at hx
      exact .inr ⟨_, by rw [hx], hql⟩
  refine ⟨?_, by rcases hL with ⟨_, e⟩ | ⟨k, _, e⟩ <;> omega, by rcases hU with ⟨_, e⟩ | ⟨k, _, e⟩ <;> omega⟩
  rcases hU with ⟨eu, hu'⟩ | ⟨ku, eu, hu'⟩ <;> rcases hL with ⟨el, hl'⟩ | ⟨kl, el, hl'⟩ <;> rw [eu, el] <;>
    simp only [Instr.sliceBounds, Sem.run_bind, Sem.run_pure, Result.andThen_ok, Option.isSome_none, Bool.false_eq_true, if_false]
  · rw [hu', hl']
  · rw [run_sliceBound hl'.1 (by omega)]; simp only [Result.andThen_ok, hu']
  · rw [run_sliceBound hu'.1 (by omega)]; simp only [Result.andThen_ok, hl']
  · rw [run_sliceBound hu'.1 (by omega)]; simp only [Result.andThen_ok]; rw [run_sliceBound hl'.1 hl'.2]; simp only [Result.andThen_ok]

theorem does_sliceXs {t e m by' : Nat} {zr : List AV} {I : TyI} {a : Operand} {lo hi : Option Operand} {m' : Nat} {s : List (List AV)} {l u : Int} {ql qu : Prop} (ev : Operand → AV) (hev : ∀ x, Den w (okN wc ok0 ι h) ι (ev x) (ρ x)) (ho : o.op = .slice t a lo hi none)
    (hI : tyi P t = some I) (hk : I.sh = .slice e m by' zr) (hr : Rel wc ok0 fp ι h w) (ha : Den w (okN wc ok0 ι h) ι (.xs m' s) (ρ a)) (hm : m' = m)
    (hu : boundA s.length (hi.map ev) s.length = some (u, qu)) (hl : boundA u.toNat (lo.map ev) 0 = some (l, ql)) (hqu : qu) (hql : ql) :
    Does P ρ o wc ok0 fp ι h w (.xs m ((s.take u.toNat).drop l.toNat)) h := by
  subst hm
  obtain ⟨hty, ie, ze, hie, _, hsz, _⟩ := tyi_slice hI hk
  obtain ⟨a0, cap, he, hcap, hrows⟩ := ha
  obtain ⟨hb, hlu, hul⟩ := run_bounds (P := P) (ρ := ρ) ev hev hcap true hu hl hqu hql
  have hs' : (Go.sizeOf e).run P w = .ok m' w := by rw [run_sizeOf _ hie]; simp [Program.cellsOf, hie, hsz]
  refine Does.quiet hr (v := .slice (if cap = l.toNat then a0 else a0.map (·.add (l.toNat * m'))) (u.toNat - l.toNat) (cap - l.toNat)) ?_ ?_
  · simp only [execOp, ho, Option.map_none, Instr.sliceAt, Sem.run_bind, run_underlying hty, Result.andThen_ok, Instr.slice, he, hb, hs', Sem.run_pure]
  · refine ⟨_, cap - l.toNat, by rw [List.length_drop, List.length_take, Nat.min_eq_left hul], by rw [List.length_drop, List.length_take]; omega, ?_⟩
    split
    · rename_i hc
      have : (s.take u.toNat).drop l.toNat = [] := by
        apply List.drop_eq_nil_of_le; simp; omega
      rw [this]; trivial
    · cases a0 with
      | none =>
        have : (s.take u.toNat).drop l.toNat = [] := by
          cases s with
          | nil => simp
          | cons r s => obtain ⟨⟨_, ad, e, _⟩, _⟩ := hrows; cases e
        rw [this]; trivial
      | some ad =>
        have h1 := denRows_drop l.toNat (denRows_take u.toNat hrows)
        have hspot : ∀ r s', s = r :: s' → ad.spot = none := by
          rintro r s' rfl
          obtain ⟨⟨_, ad', e, hsp, _⟩, _⟩ := hrows; cases e; exact hsp
        have h2 := denRows_move (k := l.toNat) (s := 0) h1
        by_cases hz : l.toNat * m' = 0
        · simp only [Option.map_some, Addr.add, hz, if_true]
          rw [hz] at h2
          cases s with
          | nil => simp [DenRows]
          | cons r s' =>
            have := hspot r s' rfl
            obtain ⟨b, off, sp⟩ := ad
            simp only at this; subst this
            exact h2
        · simp only [Option.map_some, Addr.add, if_neg hz]
          exact h2

/-- `s[:0:0]`, `s[0:0:0]`: no room left. -/
theorem does_sliceZero {t e m by' : Nat} {zr : List AV} {I : TyI} {a : Operand} {xa : AV} {lo : Option Operand} {hi mx : Operand} (ho : o.op = .slice t a lo (some hi) (some mx))
    (hlo : ∀ y, lo = some y → ∃ k, ρ y = .int k 0) (hhi : ∃ k, ρ hi = .int k 0) (hmx : ∃ k, ρ mx = .int k 0)
    (hI : tyi P t = some I) (hk : I.sh = .slice e m by' zr) (hr : Rel wc ok0 fp ι h w) (ha : ∃ (a0 : Option Addr) (l c : Nat), ρ a = .slice a0 l c) : Does P ρ o wc ok0 fp ι h w .zsl h := by
  obtain ⟨hty, ie, ze, hie, _, hsz, _⟩ := tyi_slice hI hk
  obtain ⟨a0, l, c, he⟩ := ha
  obtain ⟨k1, h1⟩ := hhi
  obtain ⟨k2, h2⟩ := hmx
  have hs' : (Go.sizeOf e).run P w = .ok m w := by rw [run_sizeOf _ hie]; simp [Program.cellsOf, hie, hsz]
  have hb : (Instr.sliceBounds true l c (lo.map ρ) (some (ρ hi)) (some (ρ mx))).run P w = .ok (0, 0, 0) w := by
    rw [h1, h2]
    cases lo with
    | none =>
      simp only [Instr.sliceBounds, Sem.run_bind, Sem.run_pure, Result.andThen_ok, Option.map_none, Option.isSome_some, if_true]
      rw [run_sliceBound (Int.le_refl _) (by omega)]; simp only [Result.andThen_ok]
      rw [run_sliceBound (Int.le_refl _) (by omega)]; simp
    | some y =>
      obtain ⟨k3, h3⟩ := hlo y rfl
      simp only [Instr.sliceBounds, Sem.run_bind, Sem.run_pure, Result.andThen_ok, Option.map_some, h3, Option.isSome_some, if_true]
      rw [run_sliceBound (Int.le_refl _) (by omega)]; simp only [Result.andThen_ok]
      rw [run_sliceBound (Int.le_refl _) (by omega)]; simp only [Result.andThen_ok]
      rw [run_sliceBound (Int.le_refl _) (by omega)]; simp
  refine Does.quiet hr (v := .slice a0 0 0) ?_ ⟨a0, rfl⟩
  simp only [execOp, ho, Option.map_some, Instr.sliceAt, Sem.run_bind, run_underlying hty, Result.andThen_ok, Instr.slice, he, hb, hs', Sem.run_pure, if_true, Nat.sub_self]

/-- A slice of an array's variable. -/
theorem does_sliceArr {t e m n : Nat} {I : TyI} {a : Operand} {lo hi : Option Operand} {b : Nat} {e' m' : Nat} {s : List (List AV)} {l u : Int} {ql qu : Prop} (ev : Operand → AV) (hev : ∀ x, Den w (okN wc ok0 ι h) ι (ev x) (ρ x)) (ho : o.op = .slice t a lo hi none)
    (hI : tyi P t = some I) (hk : I.sh = .arr n e m) (hr : Rel wc ok0 fp ι h w) (ha : Den w (okN wc ok0 ι h) ι (.ptr b 0) (ρ a)) (hb : h[b]? = some (.rows e' m' 2 s)) (hm : m' = m) (hn : s.length = n)
    (hu : boundA n (hi.map ev) n = some (u, qu)) (hl : boundA u.toNat (lo.map ev) 0 = some (l, ql)) (hqu : qu) (hql : ql) :
    Does P ρ o wc ok0 fp ι h w (.own b m l.toNat (u.toNat - l.toNat)) h := by
  subst hm
  obtain ⟨hty, ie, hie, hsz⟩ := tyi_arr hI hk
  obtain ⟨blk, c, hi', he⟩ := ha
  obtain ⟨cells, fz, us, _, _, hpl, _⟩ := hr.get hb rfl hi'
  have hc : c = n := by rw [← hn]; exact (hpl.2 rfl).symm
  subst hc
  obtain ⟨hbd, hlu, hul⟩ := run_bounds (P := P) (ρ := ρ) ev hev (Nat.le_refl c) false hu hl hqu hql
  have hs' : (Go.sizeOf e).run P w = .ok m' w := by rw [run_sizeOf _ hie]; simp [Program.cellsOf, hie, hsz]
  refine Does.quiet hr (v := .slice (some (if c = l.toNat then ⟨blk, 0, none⟩ else (⟨blk, 0, none⟩ : Addr).add (l.toNat * m'))) (u.toNat - l.toNat) (c - l.toNat)) ?_ ?_
  · simp only [execOp, ho, Option.map_none, Instr.sliceAt, Sem.run_bind, run_underlying hty, Result.andThen_ok, he, Instr.sureAddr, Sem.run_pure, hbd, hs']
  · refine ⟨blk, c, (if c = l.toNat then 0 else l.toNat * m'), hi', by omega, fun hlt => by rw [if_neg (by omega)], ?_⟩
    split
    · rfl
    · rw [add_eq]; simp

/-- len. -/
def lenA (I : TyI) : AV → Option Int
  | .str s => match I.sh with | .str => some s.length | _ => none
  | .xs _ l => match I.sh with | .slice _ _ _ _ => some l.length | _ => none
  | .own _ _ _ len => match I.sh with | .slice _ _ _ _ => some len | _ => none
  | .nilsl => match I.sh with | .slice _ _ _ _ => some 0 | _ => none
  | .zsl => match I.sh with | .slice _ _ _ _ => some 0 | _ => none
  | _ => none

theorem does_len {t : TypeId} {ty : TypeId} {I : TyI} {a : Operand} {xa : AV} {n : Int} (ho : o.op = .call { callee := .builtin .len, args := #[a], argTypes := #[t] }) (hI : tyi P t = some I) (hr : Rel wc ok0 fp ι h w)
    (ha : Den w (okN wc ok0 ι h) ι xa (ρ a)) (hl : lenA I xa = some n) : Does P ρ o wc ok0 fp ι h w (.int .i64 n) h := by
  have hex : ∀ v, (Builtin.len_ #[t] o.type #[ρ a]).run P w = .ok v w → (execOp ρ o).run P w = .ok (.value v) w := by
    intro v hv; simp [execOp, ho, resolve, invoke, builtin, hv]
  refine Does.quiet hr (hex (.int .i64 n) ?_) rfl
  cases xa <;> simp only [lenA, reduceCtorEq] at hl
  case str s =>
    split at hl
    · rename_i hsh; cases hl
      simp only [Den] at ha
      simp [Builtin.len_, run_underlying ((tyi_plain hI).2.2.1 hsh), ha, goInt, ba_size]
    · cases hl
  case xs m l =>
    split at hl
    · rename_i hsh; cases hl
      obtain ⟨a0, cap, he, _⟩ := ha
      simp [Builtin.len_, run_underlying (tyi_slice hI hsh).1, he, goInt]
    · cases hl
  case own n' m o' len =>
    split at hl
    · rename_i hsh; cases hl
      obtain ⟨b, c, ad, _, _, _, he⟩ := ha
      simp [Builtin.len_, run_underlying (tyi_slice hI hsh).1, he, goInt]
    · cases hl
  case nilsl =>
    split at hl
    · rename_i hsh; cases hl
      simp only [Den] at ha
      simp [Builtin.len_, run_underlying (tyi_slice hI hsh).1, ha, goInt]
    · cases hl
  case zsl =>
    split at hl
    · rename_i hsh; cases hl
      obtain ⟨a0, he⟩ := ha
      simp [Builtin.len_, run_underlying (tyi_slice hI hsh).1, he, goInt]
    · cases hl
end
end SX
