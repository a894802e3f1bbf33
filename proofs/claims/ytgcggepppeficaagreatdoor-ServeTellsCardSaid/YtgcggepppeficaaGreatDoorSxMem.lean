/- SX: reading and writing memory. -/
import Derived.Test.YtgcggepppeficaaGreatDoorSxOps
set_option linter.all false
set_option linter.unusedVariables false
set_option linter.unnecessarySimpa false
set_option linter.unusedSimpArgs false
namespace SX
open Go

/-- From cell o of block b on memory reads as the abstract cells. -/
def Reads (w : World) (ok : Nat → Prop) (ι : Names') (b o : Nat) (cs : List AV) : Prop :=
  ∀ (j : Nat) (x : AV), cs[j]? = some x → ∃ u, w.cell? ⟨b, o + j, none⟩ = some u ∧ Den w ok ι x u

theorem Reads.nil (w : World) (ok : Nat → Prop) (ι : Names') (b o : Nat) : Reads w ok ι b o [] := fun j x h => by simp at h

theorem Reads.drop {w : World} {ok : Nat → Prop} {ι : Names'} {b o : Nat} {cs : List AV} (h : Reads w ok ι b o cs) (k : Nat) : Reads w ok ι b (o + k) (cs.drop k) := by
  intro j x hx
  rw [List.getElem?_drop] at hx
  obtain ⟨u, hu, hd⟩ := h _ _ hx
  exact ⟨u, by rw [show o + k + j = o + (k + j) by omega]; exact hu, hd⟩

theorem denL_length {w : World} {ok : Nat → Prop} {ι : Names'} {cs : List AV} {vs : List Value} (h : DenL w ok ι cs vs) : cs.length = vs.length := (denL_iff.1 h).1

theorem Reads.list {w : World} {ok : Nat → Prop} {ι : Names'} {b o : Nat} : ∀ {cs : List AV}, Reads w ok ι b o cs →
    ∃ vs, DenL w ok ι cs vs ∧ ∀ (j : Nat) (v : Value), vs[j]? = some v → w.cell? ⟨b, o + j, none⟩ = some v
  | [], _ => ⟨[], rfl, fun j v h => by simp at h⟩
  | c :: cs, h => by
    obtain ⟨u, hu, hd⟩ := h 0 c (by simp)
    have h' : Reads w ok ι b (o + 1) cs := by have := h.drop 1; simpa using this
    obtain ⟨vs, h1, h2⟩ := Reads.list h'
    refine ⟨u :: vs, ⟨u, vs, rfl, hd, h1⟩, fun j v hv => ?_⟩
    cases j with
    | zero => simp at hv; subst hv; exact hu
    | succ j => simp at hv; have := h2 j v hv; rw [show o + (j + 1) = o + 1 + j by omega]; exact this

theorem add_eq (b o j : Nat) : (⟨b, o, none⟩ : Addr).add j = ⟨b, o + j, none⟩ := by
  unfold Addr.add; split
  · subst j; simp
  · rfl

/-- Cells as a value of one cell or of several. -/
def joinA (agg : Bool) (cs : List AV) : AV := if agg then .agg cs else cs.headD .any

theorem run_loadVar_reads {P : Program} {w : World} {ok : Nat → Prop} {ι : Names'} {b o : Nat} {cs : List AV} {t : TypeId} {I : TyI} (hI : tyi P t = some I)
    (hr : Reads w ok ι b o cs) (hl : cs.length = I.size) (h1 : I.sh.agg = false → I.size = 1) :
    ∃ v, (loadVar t ⟨b, o, none⟩).run P w = .ok v w ∧ Den w ok ι (joinA I.sh.agg cs) v := by
  obtain ⟨d, hd, hagg⟩ := tyi_agg hI
  obtain ⟨i, z, hi, hz, hsz, _⟩ := tyi_info hI
  have hA : (isAgg t).run P w = .ok I.sh.agg w := by
    simp only [isAgg, Sem.run_bind, run_underlying hd, Result.andThen_ok, ← hagg]
    cases d <;> rfl
  obtain ⟨vs, hvs, hc⟩ := hr.list
  have hlen : vs.length = I.size := by rw [← hl]; exact (denL_length hvs).symm
  simp only [loadVar, Sem.run_bind, hA, Result.andThen_ok]
  cases hg : I.sh.agg with
  | true =>
    simp only [if_true, Sem.run_bind]
    have hs : (Go.sizeOf t).run P w = .ok vs.length w := by
      rw [run_sizeOf _ hi]; simp only [Program.cellsOf, hi, Option.map_some, Option.getD_some, hsz, hlen]
    rw [hs]
    simp only [Result.andThen_ok]
    rw [run_loadCells_list w ⟨b, o, none⟩ vs (fun j v hv => by rw [add_eq]; exact hc j v hv)]
    refine ⟨.agg vs.toArray, rfl, vs, rfl, hvs⟩
  | false =>
    have h1' := h1 hg
    cases vs with
    | nil => simp at hlen; omega
    | cons v vs =>
      have hv := hc 0 v (by simp)
      simp only [Nat.add_zero] at hv
      refine ⟨v, by simp [hv], ?_⟩
      cases cs with
      | nil => simp at hl; omega
      | cons c cs =>
        obtain ⟨v', vs', e, hd', _⟩ := hvs
        cases e
        exact hd'

theorem one_spec {w : World} {ok : Nat → Prop} {ι : Names'} {x : AV} {v : Value} (h1 : one x = true) (h : Den w ok ι x v) : v.oneCell' = true ∧ v.cells = #[v] := by
  cases x <;> simp only [one, Bool.false_eq_true] at h1 <;> simp only [Den] at h
  case ptr => obtain ⟨b, c, _, rfl⟩ := h; exact ⟨rfl, rfl⟩
  case rptr => obtain ⟨b, c, _, rfl⟩ := h; exact ⟨rfl, rfl⟩
  case dptr => obtain ⟨b, c, rfl, _⟩ := h; exact ⟨rfl, rfl⟩
  case xs => obtain ⟨a, c, rfl, _⟩ := h; exact ⟨rfl, rfl⟩
  case own => obtain ⟨b, c, ad, _, _, _, rfl⟩ := h; exact ⟨rfl, rfl⟩
  case zsl => obtain ⟨a, rfl⟩ := h; exact ⟨rfl, rfl⟩
  case func => obtain ⟨vs, us, rfl, _⟩ := h; exact ⟨rfl, rfl⟩
  case iface => obtain ⟨u, rfl, _⟩ := h; exact ⟨rfl, rfl⟩
  all_goals (subst h; exact ⟨rfl, rfl⟩)

/-- A value's cells. -/
def cellsA : AV → Option (List AV)
  | .agg cs => if cs.all one then some cs else none
  | x => if one x then some [x] else none

theorem cellsA_spec {w : World} {ok : Nat → Prop} {ι : Names'} {x : AV} {v : Value} {cs : List AV} (h1 : cellsA x = some cs) (h : Den w ok ι x v) :
    DenL w ok ι cs v.cells.toList ∧ cs.all one = true ∧ (∀ u ∈ v.cells.toList, u.oneCell' = true) := by
  have plain : ∀ {x : AV}, (∀ cs, x ≠ .agg cs) → cellsA x = some cs → Den w ok ι x v → DenL w ok ι cs v.cells.toList ∧ cs.all one = true ∧ (∀ u ∈ v.cells.toList, u.oneCell' = true) := by
    intro x hx h1 h
    have h1' : one x = true ∧ [x] = cs := by
      unfold cellsA at h1
      split at h1
      · exact absurd rfl (hx _)
      · split at h1
        · rename_i ho; exact ⟨ho, by cases h1; rfl⟩
        · cases h1
    obtain ⟨ho, rfl⟩ := h1'
    obtain ⟨g1, g2⟩ := one_spec ho h
    rw [g2]
    exact ⟨⟨v, [], rfl, h, rfl⟩, by simp [ho], by simp [g1]⟩
  cases x
  case agg cs' =>
    simp only [cellsA] at h1
    split at h1
    · rename_i ha
      cases h1
      obtain ⟨vs, rfl, hd⟩ := h
      refine ⟨by simpa [Value.cells] using hd, ha, ?_⟩
      intro u hu
      simp only [Value.cells] at hu
      obtain ⟨j, hj, rfl⟩ := List.getElem_of_mem hu
      obtain ⟨hl, hp⟩ := denL_iff.1 hd
      have hj' : j < cs.length := by rw [hl]; simpa using hj
      obtain ⟨u', hu', hd'⟩ := hp j cs[j] (by simp [hj'])
      have : u' = vs[j]'(by simpa using hj) := by
        rw [List.getElem?_eq_getElem (by simpa using hj)] at hu'; simpa using hu'.symm
      subst this
      have := (List.all_eq_true.1 ha) cs[j] (List.getElem_mem hj')
      simpa using (one_spec this hd').1
    · cases h1
  all_goals exact plain (by simp) h1 h

/-- Abstract cells laid over others from a place on. -/
def overlay : List AV → List AV → List AV
  | cs, [] => cs
  | [], _ :: _ => []
  | _ :: cs, v :: vs => v :: overlay cs vs
def splice : List AV → Nat → List AV → List AV
  | cs, 0, vs => overlay cs vs
  | [], _ + 1, _ => []
  | c :: cs, o + 1, vs => c :: splice cs o vs

theorem overlay_length : ∀ cs vs : List AV, (overlay cs vs).length = cs.length
  | cs, [] => by simp [overlay]
  | [], _ :: _ => by simp [overlay]
  | _ :: cs, v :: vs => by simp [overlay, overlay_length cs vs]
theorem splice_length : ∀ (cs : List AV) (o : Nat) (vs : List AV), (splice cs o vs).length = cs.length
  | cs, 0, vs => by simp [splice, overlay_length]
  | [], _ + 1, _ => by simp [splice]
  | c :: cs, o + 1, vs => by simp [splice, splice_length cs o vs]
theorem overlay_get : ∀ (cs vs : List AV) (j : Nat), vs.length ≤ cs.length → (overlay cs vs)[j]? = if j < vs.length then vs[j]? else cs[j]?
  | cs, [], j, _ => by simp [overlay]
  | [], _ :: _, j, h => by simp at h
  | c :: cs, v :: vs, 0, _ => by simp [overlay]
  | c :: cs, v :: vs, j + 1, h => by
    simp only [overlay, List.getElem?_cons_succ, List.length_cons, Nat.add_lt_add_iff_right]
    exact overlay_get cs vs j (by simpa using h)
theorem splice_get : ∀ (cs : List AV) (o : Nat) (vs : List AV) (j : Nat), o + vs.length ≤ cs.length → (splice cs o vs)[j]? = if o ≤ j ∧ j < o + vs.length then vs[j - o]? else cs[j]?
  | cs, 0, vs, j, h => by
    simp only [splice, Nat.zero_le, true_and, Nat.zero_add, Nat.sub_zero]
    exact overlay_get cs vs j (by simpa using h)
  | [], o + 1, vs, j, h => by simp at h
  | c :: cs, o + 1, vs, 0, h => by simp [splice]
  | c :: cs, o + 1, vs, j + 1, h => by
    simp only [splice, List.getElem?_cons_succ]
    rw [splice_get cs o vs j (by simp at h; omega)]
    simp only [Nat.add_sub_add_right, Nat.add_le_add_iff_right]
    by_cases hc : o ≤ j ∧ j < o + vs.length
    · rw [if_pos hc, if_pos (by omega)]
    · rw [if_neg hc, if_neg (by omega)]

/-- Storing cells into a row of a block that has no mark among them. -/
theorem run_storeCells_row {P : Program} (b o : Nat) (T : TypeId) (fz : Nat × Nat) : ∀ (vs : List Value) (i : Nat) (cur : Array Value) (w : World), w.heap[b]? = some (.cells cur T fz) →
    (fz.2 ≤ fz.1 ∨ cur.size ≤ fz.1) → o + i + vs.length ≤ cur.size → (∀ v ∈ vs, v.oneCell' = true) →
    ∃ w', (storeCells ⟨b, o, none⟩ vs i).run P w = .ok () w' ∧ w'.os = w.os ∧ w'.tape = w.tape ∧ w'.output = w.output ∧ w'.heap.size = w.heap.size ∧ (∀ k, k ≠ b → w'.heap[k]? = w.heap[k]?) ∧
      ∃ cur', w'.heap[b]? = some (.cells cur' T fz) ∧ cur'.size = cur.size ∧ ∀ j, cur'[j]? = if o + i ≤ j ∧ j < o + i + vs.length then vs[j - (o + i)]? else cur[j]?
  | [], i, cur, w, hb, _, _, _ => ⟨w, by simp [storeCells], rfl, rfl, rfl, rfl, fun _ _ => rfl, cur, hb, rfl, fun j => by rw [if_neg (by simp only [List.length_nil]; omega)]⟩
  | v :: vs, i, cur, w, hb, hf, hl, h1 => by
    simp only [List.length_cons] at hl
    have hc : w.cell? ⟨b, o + i, none⟩ = some (cur[o + i]'(by omega)) := by
      simp [World.cell?, hb, Array.getElem?_eq_getElem (show o + i < cur.size by omega)]
    have hz : w.frozen? ⟨b, o + i, none⟩ = false := by
      simp only [World.frozen?, hb, Bool.and_eq_false_iff, decide_eq_false_iff_not]
      obtain ⟨f1, f2⟩ := fz
      simp only at hf
      omega
    have hs : (store ((⟨b, o, none⟩ : Addr).add i) v).run P w = .ok () (w.setCell ⟨b, o + i, none⟩ v) := by
      rw [add_eq, run_store P w _ v _ (h1 v (by simp)), hc, hz]; rfl
    have hb1 : (w.setCell ⟨b, o + i, none⟩ v).heap[b]? = some (.cells (cur.setIfInBounds (o + i) v) T fz) := by
      simp [World.setCell, Array.getElem?_modify, hb]
    obtain ⟨w', hr, e1, e2, e3, e4, e5, cur', hb', hs', hg⟩ := run_storeCells_row (P := P) b o T fz vs (i + 1) (cur.setIfInBounds (o + i) v) (w.setCell ⟨b, o + i, none⟩ v) hb1 (by simpa using hf) (by simp; omega)
      (fun u hu => h1 u (by simp [hu]))
    refine ⟨w', by simp only [storeCells, Sem.run_bind, hs, Result.andThen_ok, hr], e1, e2, e3, by rw [e4]; simp [World.setCell], fun k hk => (e5 k hk).trans ?_, cur', hb', by rw [hs']; simp, fun j => ?_⟩
    · simp only [World.setCell, Array.getElem?_modify]; rw [if_neg (by omega)]
    · rw [hg j]
      by_cases hj : j = o + i
      · subst hj
        rw [if_neg (by omega), if_pos (by simp)]
        simp [Array.getElem?_setIfInBounds, show o + i < cur.size by omega]
      · rw [Array.getElem?_setIfInBounds_ne (by omega)]
        by_cases hin : o + (i + 1) ≤ j ∧ j < o + (i + 1) + vs.length
        · rw [if_pos hin, if_pos (by simp; omega)]
          rw [show j - (o + i) = (j - (o + (i + 1))) + 1 by omega]; simp
        · rw [if_neg hin, if_neg (by simp; omega)]
end SX
