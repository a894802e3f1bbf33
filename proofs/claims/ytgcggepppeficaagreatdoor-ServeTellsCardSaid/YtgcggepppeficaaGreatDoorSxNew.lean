/- SX: operations that make one block, wherever its name stands. -/
import Derived.Test.YtgcggepppeficaaGreatDoorSxGrow
set_option linter.all false
set_option linter.unusedVariables false
set_option linter.unnecessarySimpa false
set_option linter.unusedSimpArgs false
namespace SX
open Go Go.Lib

mutual
/-- Name n does not stand in it. -/
def fr (n : Nat) : AV → Bool
  | .ptr k _ => k != n
  | .rptr k _ _ _ => k != n
  | .own k _ _ _ => k != n
  | .agg cs => frL n cs
  | .tup cs => frL n cs
  | .func _ fs cs => frL n fs && frL n cs
  | .iface _ x => fr n x
  | .gd _ x => fr n x
  | _ => true
def frL (n : Nat) : List AV → Bool
  | [] => true
  | c :: cs => fr n c && frL n cs
end

mutual
theorem Den.fr {w w' : World} {ok ok' : Nat → Prop} (hk : Keeps w ok w' ok') {n : Nat} {ι ι' : Names'} (hn : ∀ k b, k ≠ n → ι[k]? = some b → ι'[k]? = some b) : ∀ (x : AV) {v : Value}, SX.fr n x = true → Den w ok ι x v → Den w' ok' ι' x v
  | .int _ _, _, _, h => h
  | .bool _, _, _, h => h
  | .str _, _, _, h => h
  | .ptr k _, _, hs, ⟨b, c, hb, e⟩ => ⟨b, c, hn _ _ (by simpa [SX.fr] using hs) hb, e⟩
  | .rptr k _ _ _, _, hs, ⟨b, c, hb, e⟩ => ⟨b, c, hn _ _ (by simpa [SX.fr] using hs) hb, e⟩
  | .dptr r o, _, _, ⟨b, o', e, hc⟩ => ⟨b, o', e, DenCells.keep hk r hc⟩
  | .xs m l, _, _, ⟨a, cap, e, hl, hr⟩ => ⟨a, cap, e, hl, DenRows.keep hk l hr⟩
  | .own k _ _ _, _, hs, ⟨b, c, ad, hb, h⟩ => ⟨b, c, ad, hn _ _ (by simpa [SX.fr] using hs) hb, h⟩
  | .nilsl, _, _, h => h
  | .zsl, _, _, h => h
  | .nilptr, _, _, h => h
  | .agg cs, _, hs, ⟨vs, e, h⟩ => ⟨vs, e, DenL.fr hk hn cs hs h⟩
  | .tup cs, _, hs, ⟨vs, e, h⟩ => ⟨vs, e, DenL.fr hk hn cs hs h⟩
  | .func _ fs cs, _, hs, ⟨vs, us, e, h, h'⟩ => by
    simp only [SX.fr, Bool.and_eq_true] at hs
    exact ⟨vs, us, e, DenL.fr hk hn fs hs.1 h, DenL.fr hk hn cs hs.2 h'⟩
  | .nilfunc, _, _, h => h
  | .iface _ x, _, hs, ⟨u, e, h⟩ => ⟨u, e, Den.fr hk hn x hs h⟩
  | .niliface, _, _, h => h
  | .gd _ x, _, hs, ⟨h, h'⟩ => ⟨fun hb => Den.fr hk hn x hs (h hb), h'⟩
  | .any, _, _, h => h
theorem DenL.fr {w w' : World} {ok ok' : Nat → Prop} (hk : Keeps w ok w' ok') {n : Nat} {ι ι' : Names'} (hn : ∀ k b, k ≠ n → ι[k]? = some b → ι'[k]? = some b) : ∀ (cs : List AV) {vs : List Value}, frL n cs = true → DenL w ok ι cs vs → DenL w' ok' ι' cs vs
  | [], _, _, h => h
  | c :: cs, _, hs, ⟨v, vs', e, h, h'⟩ => by
    simp only [SX.frL, Bool.and_eq_true] at hs
    exact ⟨v, vs', e, Den.fr hk hn c hs.1 h, DenL.fr hk hn cs hs.2 h'⟩
end

section
variable {P : Program} {ρ : Operand → Value} {o : Oper} {wc : World} {ok0 : Nat → Prop} {fp : List Nat} {ι : Names'} {h h' : List Blk} {w w' : World} {x : AV} {v : Value}

/-- A new block in the world, and what it is, wherever its name stands. -/
def DoesNew (P : Program) (ρ : Operand → Value) (o : Oper) (w : World) (ok : Nat → Prop) (ι : Names') (blk : Blk) (x : Nat → AV) : Prop :=
  ∃ v w' obj c, (execOp ρ o).run P w = .ok (.value v) w' ∧ w'.os = w.os ∧ w'.tape = w.tape ∧ w'.output = w.output ∧ w'.heap = w.heap.push obj ∧
    (∀ ok' ι', Keeps w ok w' ok' → (∀ T cs us, blk = .box T cs → DenL w ok ι cs us → DenL w' ok' ι' cs us) → BlkAt w' ok' ι' w.heap.size c blk) ∧ ∀ ok' ι' n, ι'[n]? = some (w.heap.size, c) → Den w' ok' ι' (x n) v

theorem varBlk_new {t : TypeId} {I : TyI} {cs : List AV} {blk : Blk} {cells : Array Value} {ok ok' : Nat → Prop} {ι' : Names'} {b : Nat} {w' : World}
    (hv : varBlk t I cs = some blk) (hd : DenL w ok ι cs cells.toList) (hk : Keeps w ok w' ok') (hbox : ∀ T cs us, blk = .box T cs → DenL w ok ι cs us → DenL w' ok' ι' cs us) (hb : w'.heap[b]? = some (.cells cells t)) :
    BlkAt w' ok' ι' b I.sh.rooms blk := by
  unfold varBlk at hv
  split at hv
  · rename_i n e m hsh
    split at hv
    · rename_i hcond
      obtain ⟨h1, h2, h3, h4⟩ := hcond
      cases hv
      obtain ⟨g1, g2⟩ := chunks_flatten n cs h1
      have hsz : cells.size = n * m := by rw [← Array.length_toList, ← denL_length hd, h1]
      refine ⟨cells, (0, 0), cells.toList, hb, fun _ => Or.inl (Nat.le_refl _), ⟨fun _ => rfl, fun _ => by rw [hsh]; exact chunks_length m n cs⟩, by rw [hsh]; exact hsz, by rw [hsh]; exact h2, List.take_length, ?_, g2, by rw [g1]; exact h4⟩
      rw [g1]
      have := nn_denL (ι' := []) h3 hd
      exact this.keep' hk (carried_refl _)
    · cases hv
  · cases hv
    exact ⟨cells, (0, 0), hb, Or.inl (Nat.le_refl _), hbox _ cs _ rfl hd⟩

theorem alloc_new' (w : World) (ob : Obj) : (w.alloc ob).heap[w.heap.size]? = some ob := by show (w.heap.push ob)[w.heap.size]? = _; simp

theorem new_alloc {ok : Nat → Prop} {t : TypeId} {I : TyI} {blk : Blk} (ho : o.op = .alloc t) (hI : tyi P t = some I) (hb : varBlk t I I.zero = some blk) : DoesNew P ρ o w ok ι blk (fun n => .ptr n 0) := by
  obtain ⟨i, z, hi, hz, hsz, hzero⟩ := tyi_info hI
  refine ⟨.pointer (some ⟨w.heap.size, 0, none⟩), w.alloc (.cells z.cells t), _, I.sh.rooms, ?_, rfl, rfl, rfl, rfl, fun ok' ι' hk hbox => varBlk_new hb (ok := ok) (ι := ι) (by rw [hzero]; exact denL_cv _ _ _ _) hk hbox (alloc_new' _ _), fun ok' ι' n hn => ⟨_, _, hn, rfl⟩⟩
  simp only [execOp, ho, Instr.alloc, Sem.run_bind, zeroValue, run_typeInfo w hi, Result.andThen_ok, hz, Sem.run_pure, newVar, newRow, run_newObj]
  rfl

theorem new_box {ok : Nat → Prop} {t : TypeId} {I : TyI} {a : Operand} {xa : AV} {cs : List AV} {blk : Blk} (ho : o.op = .box t a) (ha : Den w ok ι xa (ρ a)) (hc : cellsA xa = some cs) (hb : varBlk t I cs = some blk) : DoesNew P ρ o w ok ι blk (fun n => .ptr n 0) := by
  obtain ⟨h1, _, _⟩ := cellsA_spec hc ha
  refine ⟨.pointer (some ⟨w.heap.size, 0, none⟩), w.alloc (.cells (ρ a).cells t), _, I.sh.rooms, ?_, rfl, rfl, rfl, rfl, fun ok' ι' hk hbox => varBlk_new hb (ok := ok) (ι := ι) h1 hk hbox (alloc_new' _ _), fun ok' ι' n hn => ⟨_, _, hn, rfl⟩⟩
  simp only [execOp, ho, Instr.box, Sem.run_bind, Sem.run_pure, newVar, newRow, run_newObj, Result.andThen_ok]
  rfl

def makeB (I : TyI) (l c : Int) : Option (Nat × Nat × Blk × Prop) :=
  match I.sh with
  | .slice e m by' zr => if zr.all one = true then some (m, l.toNat, .rows e m 1 (List.replicate l.toNat zr), 0 ≤ l ∧ l ≤ c ∧ (by' : Int) * c ≤ 281474976710656 ∧ c ≤ maxLen ∧ c ≤ 9223372036854775807) else none
  | _ => none

theorem new_makeSlice {ok : Nat → Prop} {t : TypeId} {I : TyI} {a b : Operand} {k k' : IntKind} {l c : Int} {m len : Nat} {blk : Blk} {p : Prop} (ho : o.op = .makeSlice t a b) (hI : tyi P t = some I)
    (ha : Den w ok ι (.int k l) (ρ a)) (hb : Den w ok ι (.int k' c) (ρ b)) (hl : makeB I l c = some (m, len, blk, p)) (hp : p) : DoesNew P ρ o w ok ι blk (fun n => .own n m 0 len) := by
  unfold makeB at hl
  split at hl
  · rename_i e m' by' zr hsh
    split at hl
    · rename_i hone
      simp only [Option.some.injEq, Prod.mk.injEq] at hl
      obtain ⟨rfl, rfl, rfl, rfl⟩ := hl
      obtain ⟨h0, h1, h2, h3, h4⟩ := hp
      obtain ⟨hu, ie, ze, hie, hz, hsz, hbytes, hzs, hzr⟩ := tyi_slice hI hsh
      simp only [Den] at ha hb
      have hrun := run_make (P := P) w t e ie ze hu hie hz k k' l c h0 h1 (by rw [hbytes]; exact h2) h4
      have hcl : l.toNat ≤ c.toNat := by omega
      have hzl : zr.length = m' := by rw [hzr]; simp [hzs]
      have hle : l.toNat * m' ≤ c.toNat * m' := Nat.mul_le_mul_right _ hcl
      refine ⟨.slice (some ⟨w.heap.size, 0, none⟩) l.toNat c.toNat, w.alloc (.cells (madeCells ze.cells (c.toNat * ie.size)) e), _, c.toNat, ?_, rfl, rfl, rfl, rfl, fun ok' ι' hk hbox => ?_, fun ok' ι' n hn => ⟨w.heap.size, c.toNat, 0, hn, by omega, fun _ => by simp, by simp⟩⟩
      · simp only [execOp, ho, ha, hb, Sem.run_bind, hrun, Result.andThen_ok, Sem.run_pure]
      · refine rowsAt (vs := (madeCells ze.cells (c.toNat * ie.size)).toList.take (l.toNat * m')) (alloc_new' _ _) (by rw [size_madeCells, hsz]) (by omega) ?_ ?_ (fun r hr => ?_) ?_
        · rw [List.length_take, Nat.min_eq_left (by rw [Array.length_toList, size_madeCells, hsz]; exact hle)]
        · rw [hzr]; exact den_made hzs _ _ (by rw [hsz]; exact hle)
        · rw [(List.mem_replicate.1 hr).2]; exact hzl
        · rw [List.all_eq_true] at hone ⊢
          intro y hy
          obtain ⟨r, hr, hy⟩ := List.mem_flatten.1 hy
          rw [(List.mem_replicate.1 hr).2] at hy
          exact hone y hy
    · cases hl
  · cases hl

def buildB (I : TyI) (len : Nat) (ps : List (Nat × AV)) : Option (Nat × Blk) :=
  match I.sh with
  | .slice e m _ zr => if decide (0 < len * m ∧ len * m ≤ 2 ^ 24) = true then
      match fillA (fun i => some (i * m, m)) (List.replicate len zr).flatten ps with
      | some cs => if cs.all nn = true then (if cs.all one = true then some (m, .rows e m 1 (chunks m len cs)) else none) else some (m, .box e cs)
      | none => none
    else none
  | _ => none

theorem new_buildSlice {ok : Nat → Prop} {t : TypeId} {I : TyI} {len m : Nat} {blk : Blk} {parts : Array (Nat × Operand)} (ev : Operand → AV) (hev : ∀ x, Den w ok ι (ev x) (ρ x)) (ho : o.op = .buildSlice t len parts) (hI : tyi P t = some I)
    (hl : buildB I len (parts.toList.map fun p => (p.1, ev p.2)) = some (m, blk)) : DoesNew P ρ o w ok ι blk (fun n => .own n m 0 len) := by
  unfold buildB at hl
  split at hl
  · rename_i e m' by' zr hsh
    split at hl
    · rename_i hcond
      simp only [decide_eq_true_eq] at hcond
      split at hl
      · rename_i cs hf
        obtain ⟨hu, ie, ze, hie, hz, hsz, hbytes, hzs, hzr⟩ := tyi_slice hI hsh
        have hzl : zr.length = m' := by rw [hzr]; simp [hzs]
        have hmade : DenL w ok ι (List.replicate len zr).flatten (madeCells ze.cells (len * m')).toList := by
          have := den_made (w := w) (ok := ok) (ι := ι) hzs (len * m') len (Nat.le_refl _)
          rw [List.take_of_length_le (by rw [Array.length_toList, size_madeCells]; exact Nat.le_refl _)] at this
          rw [hzr]; exact this
        have hparts : ∀ (k : Nat) (p : Nat × AV) (u : Nat × Value), (parts.toList.map fun p => (p.1, ev p.2))[k]? = some p → (parts.toList.map fun p => (p.1, ρ p.2))[k]? = some u → Den w ok ι p.2 u.2 := by
          intro k p u hp hu
          rw [List.getElem?_map] at hp hu
          cases hk : parts.toList[k]? with
          | none => rw [hk] at hp; simp at hp
          | some q => rw [hk] at hp hu; simp at hp hu; subst hp; subst hu; exact hev _
        have hm : (parts.toList.map fun p => (p.1, ev p.2)).map (·.1) = (parts.toList.map fun p => (p.1, ρ p.2)).map (·.1) := by simp
        obtain ⟨cells', hfill, hd, hcs⟩ := run_fill hm hparts hmade hf
        have htl : (parts.map fun p => (p.1, ρ p.2)).toList = parts.toList.map fun p => (p.1, ρ p.2) := by simp
        have hrun := run_buildSlice (P := P) w t e len (parts.map fun p => (p.1, ρ p.2)) cells' ie ze hu hie hz (by rw [hsz]; omega) (by rw [hsz]; omega) (by
          rw [htl]
          have : (fun i => some (i * ie.size, ie.size)) = (fun i : Nat => some (i * m', m')) := by funext i; rw [hsz]
          rw [this, hsz]
          exact hfill)
        have hex : (execOp ρ o).run P w = .ok (.value (.slice (some ⟨w.heap.size, 0, none⟩) len len)) (w.alloc (.cells cells' e)) := by
          simp only [execOp, ho, Sem.run_bind, hrun, Result.andThen_ok, Sem.run_pure]
        have hclen : cs.length = len * m' := by rw [fillA_length hf, rep_flat hzl]
        have hcsz : cells'.size = len * m' := by rw [hcs, size_madeCells]
        have hlm : len ≤ maxLen := by
          have h1 : 0 < m' := by rcases Nat.eq_zero_or_pos m' with h0 | h0; subst h0; simp at hcond; exact h0
          have h2 : len * 1 ≤ len * m' := Nat.mul_le_mul_left _ h1
          simp only [maxLen]; omega
        have fin : ∀ {blk' : Blk}, (∀ ok' ι', Keeps w ok (w.alloc (.cells cells' e)) ok' → (∀ T cs us, blk' = .box T cs → DenL w ok ι cs us → DenL (w.alloc (.cells cells' e)) ok' ι' cs us) → BlkAt (w.alloc (.cells cells' e)) ok' ι' w.heap.size len blk') → DoesNew P ρ o w ok ι blk' (fun n => .own n m' 0 len) :=
          fun hb => ⟨_, _, _, len, hex, rfl, rfl, rfl, rfl, hb, fun ok' ι' n hn => ⟨w.heap.size, len, 0, hn, by omega, fun _ => by simp, by simp⟩⟩
        split at hl
        · rename_i hnn
          split at hl
          · rename_i hone
            simp only [Option.some.injEq, Prod.mk.injEq] at hl
            obtain ⟨rfl, rfl⟩ := hl
            obtain ⟨g1, g2⟩ := chunks_flatten len cs hclen
            exact fin fun ok' ι' hk _ => rowsAt (vs := cells'.toList) (alloc_new' _ _) hcsz hlm List.take_length (by rw [g1]; exact (nn_denL (ι' := []) hnn hd).keep' hk (carried_refl _)) g2 (by rw [g1]; exact hone)
          · cases hl
        · simp only [Option.some.injEq, Prod.mk.injEq] at hl
          obtain ⟨rfl, rfl⟩ := hl
          exact fin fun ok' ι' hk hbox => ⟨cells', (0, 0), alloc_new' _ _, .inl (Nat.le_refl _), hbox _ cs _ rfl hd⟩
      · cases hl
    · cases hl
  · cases hl

/-- Operations that make one block. -/
def newA (P : Program) (ev : Operand → AV) (n : Nat) (op : Op) : Option (AV × Blk × Prop) :=
  match op with
  | .alloc t => match tyi P t with
    | some I => match varBlk t I I.zero with
      | some b => some (.ptr n 0, b, True)
      | none => none
    | none => none
  | .box t a => match tyi P t with
    | some I => match cellsA (ev a) with
      | some cs => match varBlk t I cs with
        | some b => some (.ptr n 0, b, True)
        | none => none
      | none => none
    | none => none
  | .makeSlice t a b => match tyi P t with
    | some I => match ev a, ev b with
      | .int _ l, .int _ c => match makeB I l c with
        | some (m, len, b, p) => some (.own n m 0 len, b, p)
        | none => none
      | _, _ => none
    | none => none
  | .buildSlice t len ps => match tyi P t with
    | some I => match buildB I len (ps.toList.map fun p => (p.1, ev p.2)) with
      | some (m, b) => some (.own n m 0 len, b, True)
      | none => none
    | none => none
  | _ => none

theorem newA_does {ok : Nat → Prop} (ev : Operand → AV) (hev : ∀ x, Den w ok ι (ev x) (ρ x)) {n : Nat} {b : Blk} {p : Prop} (hl : newA P ev n o.op = some (x, b, p)) (hp : p) : ∃ f : Nat → AV, f n = x ∧ DoesNew P ρ o w ok ι b f := by
  cases ho : o.op <;> rw [ho] at hl <;> simp only [newA, reduceCtorEq] at hl
  case alloc t =>
    split at hl
    · rename_i I hI
      split at hl
      · rename_i b' hb; cases hl; exact ⟨_, rfl, new_alloc ho hI hb⟩
      · cases hl
    · cases hl
  case box t a =>
    split at hl
    · rename_i I hI
      split at hl
      · rename_i cs hcs
        split at hl
        · rename_i b' hb; cases hl; exact ⟨_, rfl, new_box ho (hev a) hcs hb⟩
        · cases hl
      · cases hl
    · cases hl
  case makeSlice t a b' =>
    split at hl
    · rename_i I hI
      split at hl
      · rename_i k l k' c h1 h2
        split at hl
        · rename_i m len b'' p' hm
          cases hl
          exact ⟨fun n => .own n m 0 len, rfl, new_makeSlice ho hI (by rw [← h1]; exact hev a) (by rw [← h2]; exact hev b') hm hp⟩
        · cases hl
      · cases hl
    · cases hl
  case buildSlice t len ps =>
    split at hl
    · rename_i I hI
      split at hl
      · rename_i m b'' hm; cases hl; exact ⟨fun n => .own n m 0 len, rfl, new_buildSlice ev hev ho hI hm⟩
      · cases hl
    · cases hl

/-- No box of the heap's names it. -/
def frH (n : Nat) (h : List Blk) : Prop := ∀ (k : Nat) (T : TypeId) (cs : List AV), h[k]? = some (.box T cs) → frL n cs = true

/-- A name that was laid by is taken by a new block. -/
theorem Rel.fill (hr : Rel wc ok0 fp ι h w) {w' : World} {obj : Obj} {c n : Nat} {blk : Blk} (h1 : w'.os = w.os) (h2 : w'.tape = w.tape) (h3 : w'.output = w.output) (h4 : w'.heap = w.heap.push obj) (hn : h[n]? = some .dead) (hfr : frH n h) (hfb : ∀ T cs, blk = .box T cs → frL n cs = true)
    (hb : ∀ ok' ι', Keeps w (okN wc ok0 ι h) w' ok' → (∀ T cs us, blk = .box T cs → DenL w (okN wc ok0 ι h) ι cs us → DenL w' ok' ι' cs us) → BlkAt w' ok' ι' w.heap.size c blk) :
    Rel wc ok0 fp (ι.set n (w.heap.size, c)) (h.set n blk) w' ∧ Keeps w (okN wc ok0 ι h) w' (okN wc ok0 (ι.set n (w.heap.size, c)) (h.set n blk)) := by
  have hlt : n < h.length := (List.getElem?_eq_some_iff.1 hn).1
  have hlι : n < ι.length := by rw [hr.len]; exact hlt
  have hold : ∀ b, b < w.heap.size → w'.heap[b]? = w.heap[b]? := fun b hb => by rw [h4]; exact getElem?_push_lt _ _ hb
  have hsz : w'.heap.size = w.heap.size + 1 := by rw [h4]; simp
  have hsplit : ∀ (k : Nat) (bc : Nat × Nat) (b' : Blk), (ι.set n (w.heap.size, c))[k]? = some bc → (h.set n blk)[k]? = some b' → (k = n ∧ bc = (w.heap.size, c) ∧ b' = blk) ∨ (k ≠ n ∧ ι[k]? = some bc ∧ h[k]? = some b') := by
    intro k bc b' e1 e2
    by_cases e : k = n
    · subst e
      rw [List.getElem?_set_self hlι] at e1; rw [List.getElem?_set_self hlt] at e2
      simp at e1 e2; exact .inl ⟨rfl, e1.symm, e2.symm⟩
    · rw [List.getElem?_set_ne (by omega)] at e1; rw [List.getElem?_set_ne (by omega)] at e2
      exact .inr ⟨e, e1, e2⟩
  have hcar : ∀ k b, k ≠ n → ι[k]? = some b → (ι.set n (w.heap.size, c))[k]? = some b := fun k b hk hb => by rw [List.getElem?_set_ne (by omega)]; exact hb
  have hk : Keeps w (okN wc ok0 ι h) w' (okN wc ok0 (ι.set n (w.heap.size, c)) (h.set n blk)) := by
    rintro b ⟨hb1, hb2⟩ hlt'
    refine ⟨hold b hlt', hb1, fun k c' blk' hk hl he => ?_⟩
    rcases hsplit k _ _ he hk with ⟨_, e, _⟩ | ⟨_, e1, e2⟩
    · cases e; omega
    · exact hb2 k c' blk' e2 hl e1
  have hbnew : BlkAt w' (okN wc ok0 (ι.set n (w.heap.size, c)) (h.set n blk)) (ι.set n (w.heap.size, c)) w.heap.size c blk :=
    hb _ _ hk fun T cs us e hd => DenL.fr hk hcar cs (hfb T cs e) hd
  refine ⟨⟨h1.trans hr.os, h2.trans hr.tape, h3.trans hr.output, by have := hr.size; omega, fun b hb' hf => (hold b (Nat.lt_of_lt_of_le hb' hr.size)).trans (hr.frame b hb' hf), by simp [hr.len], ?_, ?_⟩, hk⟩
  · intro k b c' b' e1 e2 hl
    rcases hsplit k _ _ e1 e2 with ⟨_, e, e'⟩ | ⟨hne, e, e'⟩
    · cases e; subst e'
      exact ⟨by omega, .inl hr.size, hbnew⟩
    · obtain ⟨a1, a2, a3⟩ := hr.own k b c' b' e e' hl
      refine ⟨by omega, a2, ?_⟩
      cases b' with
      | dead => trivial
      | obj ob => exact (hold b a1).trans a3
      | rows e0 m fl l => exact BlkAt.keep hk (ι := ι) (carried_refl ι) (hold b a1) a3
      | box T cs =>
        obtain ⟨us, fz, g1, g2, g3⟩ := a3
        exact ⟨us, fz, (hold b a1).trans g1, g2, DenL.fr hk hcar cs (hfr k T cs e') g3⟩
  · intro k k' b c' c'' b1 b2 e1 e2 e3 e4 l1 l2
    rcases hsplit k _ _ e1 e3 with ⟨a, e, _⟩ | ⟨a, e, e'⟩ <;> rcases hsplit k' _ _ e2 e4 with ⟨a', f, _⟩ | ⟨a', f, f'⟩
    · omega
    · cases e; have := (hr.own k' _ c'' b2 f f' l2).1; omega
    · cases f; have := (hr.own k _ c' b1 e e' l1).1; omega
    · exact hr.inj _ _ _ _ _ _ _ e f e' f' l1 l2
end
end SX
