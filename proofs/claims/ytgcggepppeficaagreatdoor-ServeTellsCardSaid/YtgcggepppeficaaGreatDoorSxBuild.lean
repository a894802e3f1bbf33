/- SX: composite values, and new slices of data. -/
import Derived.Test.YtgcggepppeficaaGreatDoorSxDoes
set_option linter.all false
set_option linter.unusedVariables false
set_option linter.unnecessarySimpa false
set_option linter.unusedSimpArgs false
namespace SX
open Go

section
variable {P : Program} {ρ : Operand → Value} {o : Oper} {wc : World} {ok0 : Nat → Prop} {fp : List Nat} {ι : Names'} {h h' : List Blk} {w w' : World} {x : AV} {v : Value}

/-- Parts laid over cells, each at its place. -/
def fillA (place : Nat → Option (Nat × Nat)) : List AV → List (Nat × AV) → Option (List AV)
  | cs, [] => some cs
  | cs, (i, x) :: rest => match place i with
    | some (off, size) => match cellsA x with
      | some vs => if vs.length = size ∧ off + size ≤ cs.length then fillA place (splice cs off vs) rest else none
      | none => none
    | none => none

theorem fold_set (vs : List Value) (off : Nat) : ∀ (k : Nat) (cells : Array Value), off + k + vs.length ≤ cells.size →
    ((vs.zipIdx k).foldl (fun cs (c, j) => cs.setIfInBounds (off + j) c) cells).size = cells.size ∧
    ∀ j, ((vs.zipIdx k).foldl (fun cs (c, j) => cs.setIfInBounds (off + j) c) cells)[j]? = if off + k ≤ j ∧ j < off + k + vs.length then vs[j - (off + k)]? else cells[j]? := by
  induction vs with
  | nil => intro k cells _; exact ⟨rfl, fun j => by rw [if_neg (by simp only [List.length_nil]; omega)]; rfl⟩
  | cons v vs ih =>
    intro k cells hl
    simp only [List.length_cons] at hl
    simp only [List.zipIdx_cons, List.foldl_cons]
    obtain ⟨h1, h2⟩ := ih (k + 1) (cells.setIfInBounds (off + k) v) (by simp; omega)
    refine ⟨by rw [h1]; simp, fun j => ?_⟩
    rw [h2 j]
    by_cases hj : j = off + k
    · subst hj
      rw [if_neg (by omega), if_pos (by simp)]
      simp [Array.getElem?_setIfInBounds, show off + k < cells.size by omega]
    · rw [Array.getElem?_setIfInBounds_ne (by omega)]
      by_cases hin : off + (k + 1) ≤ j ∧ j < off + (k + 1) + vs.length
      · rw [if_pos hin, if_pos (by simp; omega)]
        rw [show j - (off + k) = (j - (off + (k + 1))) + 1 by omega]; simp
      · rw [if_neg hin, if_neg (by simp; omega)]

theorem run_fill {ok : Nat → Prop} {place : Nat → Option (Nat × Nat)} : ∀ {ps : List (Nat × AV)} {us : List (Nat × Value)} {cs cs' : List AV} {cells : Array Value}, (ps.map (·.1) = us.map (·.1)) → (∀ (i : Nat) (p : Nat × AV) (u : Nat × Value), ps[i]? = some p → us[i]? = some u → Den w ok ι p.2 u.2) →
    DenL w ok ι cs cells.toList → fillA place cs ps = some cs' → ∃ cells', Instr.fill place cells us = some cells' ∧ DenL w ok ι cs' cells'.toList ∧ cells'.size = cells.size
  | [], us, cs, cs', cells, hm, _, hd, hf => by
    cases us with
    | nil => simp only [fillA, Option.some.injEq] at hf; subst hf; exact ⟨cells, rfl, hd, rfl⟩
    | cons u us => simp at hm
  | (i, x) :: ps, us, cs, cs', cells, hm, hp, hd, hf => by
    cases us with
    | nil => simp at hm
    | cons u us =>
      obtain ⟨j, v⟩ := u
      simp only [List.map_cons, List.cons.injEq] at hm
      obtain ⟨rfl, hm⟩ := hm
      have hx : Den w ok ι x v := hp 0 (i, x) (i, v) (by simp) (by simp)
      simp only [fillA] at hf
      split at hf
      · rename_i off size hpl
        split at hf
        · rename_i vs hvs
          split at hf
          · rename_i hc
            obtain ⟨d1, d2, d3⟩ := cellsA_spec hvs hx
            have hvl := denL_length d1
            have hcl := denL_length hd
            simp only [Array.length_toList] at hvl hcl
            have hbound : off + 0 + v.cells.toList.length ≤ cells.size := by simp only [Array.length_toList]; omega
            obtain ⟨g1, g2⟩ := fold_set v.cells.toList off 0 cells hbound
            have hd' : DenL w ok ι (splice cs off vs) ((v.cells.toList.zipIdx 0).foldl (fun cs (c, j) => cs.setIfInBounds (off + j) c) cells).toList := by
              have gl : ((v.cells.toList.zipIdx 0).foldl (fun cs (c, j) => cs.setIfInBounds (off + j) c) cells).toList.length = cells.size := by rw [Array.length_toList]; exact g1
              refine denL_iff.2 ⟨by rw [splice_length, gl]; exact hcl, fun k y hy => ?_⟩
              rw [splice_get _ _ _ _ (by omega)] at hy
              have gk := g2 k
              by_cases hin : off ≤ k ∧ k < off + vs.length
              · rw [if_pos hin] at hy
                obtain ⟨u, hu, hdu⟩ := (denL_iff.1 d1).2 _ y hy
                rw [if_pos (by simp only [Array.length_toList]; omega)] at gk
                exact ⟨u, by simpa using gk.trans (by simpa using hu), hdu⟩
              · rw [if_neg hin] at hy
                obtain ⟨u, hu, hdu⟩ := (denL_iff.1 hd).2 _ y hy
                rw [if_neg (by simp only [Array.length_toList]; omega)] at gk
                exact ⟨u, by simpa using gk.trans (by simpa using hu), hdu⟩
            obtain ⟨cells', hf', hd'', hs'⟩ := run_fill (ps := ps) (us := us) hm (fun k p u hk hu => hp (k + 1) p u (by simpa using hk) (by simpa using hu)) hd' hf
            refine ⟨cells', ?_, hd'', by rw [hs', g1]⟩
            simp only [Instr.fill, hpl]
            rw [if_neg (by simp only [Bool.or_eq_true, decide_eq_true_eq, ne_eq]; omega)]
            rw [← hf']; congr 1
            rw [← Array.foldl_toList]; simp
          · cases hf
        · cases hf
      · cases hf

/-- A struct's or an array's value. -/
def buildA (I : TyI) (ps : List (Nat × AV)) : Option AV :=
  match I.sh with
  | .struct fs => match fillA (fs[·]?) I.zero ps with
    | some cs => some (.agg cs)
    | none => none
  | .arr _ _ m => match fillA (fun i => some (i * m, m)) I.zero ps with
    | some cs => some (.agg cs)
    | none => none
  | _ => none

theorem does_build {t : TypeId} {I : TyI} {parts : Array (Nat × Operand)} (ev : Operand → AV) (hev : ∀ x, Den w (okN wc ok0 ι h) ι (ev x) (ρ x)) (ho : o.op = .build t parts) (hI : tyi P t = some I) (hr : Rel wc ok0 fp ι h w)
    (hl : buildA I (parts.toList.map fun p => (p.1, ev p.2)) = some x) : Does P ρ o wc ok0 fp ι h w x h := by
  obtain ⟨i, z, hi, hz, hs, hzero⟩ := tyi_info hI
  have hzr : (zeroValue t).run P w = .ok z w := by simp only [zeroValue, Sem.run_bind, run_typeInfo w hi, Result.andThen_ok, hz, Sem.run_pure]
  have hparts : ∀ (k : Nat) (p : Nat × AV) (u : Nat × Value), (parts.toList.map fun p => (p.1, ev p.2))[k]? = some p → (parts.toList.map fun p => (p.1, ρ p.2))[k]? = some u → Den w (okN wc ok0 ι h) ι p.2 u.2 := by
    intro k p u hp hu
    rw [List.getElem?_map] at hp hu
    cases hk : parts.toList[k]? with
    | none => rw [hk] at hp; simp at hp
    | some q => rw [hk] at hp hu; simp at hp hu; subst hp; subst hu; exact hev _
  have hm : (parts.toList.map fun p => (p.1, ev p.2)).map (·.1) = (parts.toList.map fun p => (p.1, ρ p.2)).map (·.1) := by simp
  have hdz : DenL w (okN wc ok0 ι h) ι I.zero z.cells.toList := by rw [hzero]; exact denL_cv _ _ _ _
  have htl : (parts.map fun p => (p.1, ρ p.2)).toList = parts.toList.map fun p => (p.1, ρ p.2) := by simp
  unfold buildA at hl
  split at hl
  · rename_i fs hsh
    obtain ⟨fields, hu, hfs, hall⟩ := tyi_struct hI hsh
    split at hl
    · rename_i cs hc
      cases hl
      obtain ⟨cells', hf, hd, _⟩ := run_fill hm hparts hdz hc
      have hplaces : (fields.mapM fun f => (do pure (f.offset, ← Go.sizeOf f.type) : Sem (Nat × Nat))).run P w = .ok fs.toArray w := by
        rw [Array.mapM_eq_mapM_toList]
        have : ∀ l : List Field, (∀ f ∈ l, (P.info? f.type).isSome = true) → (l.mapM fun f => (do pure (f.offset, ← Go.sizeOf f.type) : Sem (Nat × Nat))).run P w = .ok (l.map fun f => (f.offset, ((P.info? f.type).map (·.size)).getD 0)) w := by
          intro l
          induction l with
          | nil => intro _; rfl
          | cons f l ih =>
            intro hall
            obtain ⟨fi, hfi⟩ := Option.isSome_iff_exists.1 (hall f (by simp))
            have hsf : (Go.sizeOf f.type).run P w = .ok fi.size w := by rw [run_sizeOf _ hfi]; simp [Program.cellsOf, hfi]
            simp only [List.mapM_cons, Sem.run_bind, hsf, Result.andThen_ok, Sem.run_pure, ih (fun g hg => hall g (by simp [hg])), List.map_cons, hfi, Option.map_some, Option.getD_some]
        simp only [Sem.run_map, this fields.toList (fun f hf => List.all_eq_true.1 hall f hf), Result.andThen_ok, hfs]
      refine Does.quiet hr (v := .agg cells') ?_ ⟨cells'.toList, by simp, hd⟩
      have hplace' : (fun i : Nat => fs.toArray[i]?) = (fun i : Nat => fs[i]?) := by funext i; simp
      simp only [execOp, ho, Instr.build, Sem.run_bind, hzr, Result.andThen_ok, run_underlying hu, hplaces, htl, hplace', hf, Sem.run_pure]
    · cases hl
  · rename_i n e m hsh
    obtain ⟨hu, ie, hie, hsz'⟩ := tyi_arr hI hsh
    split at hl
    · rename_i cs hc
      cases hl
      obtain ⟨cells', hf, hd, _⟩ := run_fill hm hparts hdz hc
      have hse : (Go.sizeOf e).run P w = .ok m w := by rw [run_sizeOf _ hie]; simp [Program.cellsOf, hie, hsz']
      refine Does.quiet hr (v := .agg cells') ?_ ⟨cells'.toList, by simp, hd⟩
      simp only [execOp, ho, Instr.build, Sem.run_bind, hzr, Result.andThen_ok, run_underlying hu, hse, htl, hf, Sem.run_pure]
    · cases hl
  · cases hl
end
end SX
