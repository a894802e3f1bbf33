/- SX: structs that are compared, cell by cell. -/
import Derived.Test.YtgcggepppeficaaGreatDoorSxDoes
import Derived.Laws.StructEq
set_option linter.all false
set_option linter.unusedVariables false
set_option linter.unnecessarySimpa false
set_option linter.unusedSimpArgs false
namespace SX
open Go

def aggD : TypeDesc → Bool
  | .struct _ => true
  | .array _ _ => true
  | _ => false

/-- What a field's cell is. -/
inductive EK where
  | int | bool | str

def flatF (P : Program) : Nat → List Field → Option (List EK)
  | _, [] => some []
  | o, f :: fs => if f.name ≠ "_" ∧ f.offset = o then
      match P.underlying f.type with
      | some (.int _) => (flatF P (o + 1) fs).map (.int :: ·)
      | some .bool => (flatF P (o + 1) fs).map (.bool :: ·)
      | some .string => (flatF P (o + 1) fs).map (.str :: ·)
      | _ => none
    else none

/-- A struct of whole numbers, truth values and strings. -/
def flatEq (P : Program) (t : TypeId) : Option (List EK) :=
  match P.underlying t with
  | some (.struct fs) => if P.stoodInHeld t = false ∧ P.eqGuardType P.depth t = false then flatF P 0 fs.toList else none
  | _ => none

def eqCellsA : List EK → List AV → List AV → Option Bool
  | [], [], [] => some true
  | .int :: ks, .int k x :: cs, .int k' y :: ds => if k = k' then match eqCellsA ks cs ds with
    | some r => some (x == y && r)
    | none => none
    else none
  | .bool :: ks, .bool x :: cs, .bool y :: ds => match eqCellsA ks cs ds with
    | some r => some (x == y && r)
    | none => none
  | .str :: ks, .str x :: cs, .str y :: ds => match eqCellsA ks cs ds with
    | some r => some (x == y && r)
    | none => none
  | _, _, _ => none

section
variable {P : Program} {ρ : Operand → Value} {o : Oper} {wc : World} {ok0 : Nat → Prop} {fp : List Nat} {ι : Names'} {h h' : List Blk} {w w' : World} {x : AV} {v : Value}

theorem run_part_one {t : TypeId} {d : TypeDesc} (hu : P.underlying t = some d) (hd : aggD d = false) {cs : Array Value} {off : Nat} {u : Value} (hc : cs[off]? = some u) : (part t cs off).run P w = .ok u w := by
  have hA : (isAgg t).run P w = .ok false w := by
    rw [← hd]
    simp only [isAgg, Sem.run_bind, run_underlying hu, Result.andThen_ok]
    cases d <;> rfl
  simp [part, hA, hc]

theorem run_eqFields {ok : Nat → Prop} {d : Nat} {xs ys : Array Value} : ∀ {fs : List Field} {o : Nat} {ks : List EK} {cs ds : List AV} {us vs : List Value} {r : Bool}, flatF P o fs = some ks → eqCellsA ks cs ds = some r → DenL w ok ι cs us → DenL w ok ι ds vs →
    (∀ (j : Nat) (u : Value), us[j]? = some u → xs[o + j]? = some u) → (∀ (j : Nat) (u : Value), vs[j]? = some u → ys[o + j]? = some u) → (Op.eqFields (d + 1) xs ys fs).run P w = .ok r w
  | [], o, ks, cs, ds, us, vs, r, hf, he, _, _, _, _ => by
    simp only [flatF, Option.some.injEq] at hf
    subst hf
    cases cs <;> cases ds <;> simp only [eqCellsA, Option.some.injEq, reduceCtorEq] at he
    subst he; rfl
  | f :: fs, o, ks, cs, ds, us, vs, r, hf, he, hcs, hds, hx, hy => by
    simp only [flatF] at hf
    split at hf
    · rename_i hcond
      obtain ⟨hn, ho⟩ := hcond
      have step : ∀ {c c' : AV} {cs' ds' : List AV} {ks' : List EK} {r1 r2 : Bool} {dd : TypeDesc}, cs = c :: cs' → ds = c' :: ds' → flatF P (o + 1) fs = some ks' → eqCellsA ks' cs' ds' = some r2 → r = (r1 && r2) → P.underlying f.type = some dd → aggD dd = false →
          (∀ u u', Den w ok ι c u → Den w ok ι c' u' → (Op.equalIn (d + 1) f.type u u').run P w = .ok r1 w) → (Op.eqFields (d + 1) xs ys (f :: fs)).run P w = .ok r w := by
        intro c c' cs' ds' ks' r1 r2 dd e1 e2 hk hr2 hr hu hdd heq
        subst e1; subst e2
        obtain ⟨u, us', rfl, hdu, hdus⟩ := hcs
        obtain ⟨u', vs', rfl, hdu', hdvs⟩ := hds
        have p1 := run_part_one (w := w) hu hdd (hx 0 u (by simp))
        have p2 := run_part_one (w := w) hu hdd (hy 0 u' (by simp))
        simp only [Nat.add_zero] at p1 p2
        have ih := run_eqFields (d := d) (xs := xs) (ys := ys) hk hr2 hdus hdvs (fun j u hu => by rw [show o + 1 + j = o + (j + 1) by omega]; exact hx (j + 1) u (by simpa using hu)) (fun j u hu => by rw [show o + 1 + j = o + (j + 1) by omega]; exact hy (j + 1) u (by simpa using hu))
        simp only [Op.eqFields, if_pos hn, Sem.run_bind, ho, p1, p2, Result.andThen_ok, heq u u' hdu hdu']
        cases r1
        · simp [hr]
        · simp only [Bool.not_true, Bool.false_eq_true, if_false, ih, hr, Bool.true_and]
      split at hf
      · rename_i k hu
        rw [Option.map_eq_some_iff] at hf
        obtain ⟨ks', hk, rfl⟩ := hf
        cases cs with
        | nil => simp [eqCellsA] at he
        | cons c cs' => cases ds with
          | nil => cases c <;> simp [eqCellsA] at he
          | cons c' ds' =>
            cases c <;> cases c' <;> simp only [eqCellsA, reduceCtorEq] at he
            split at he
            · rename_i hkk
              subst hkk
              split at he
              · rename_i r2 hr2
                simp only [Option.some.injEq] at he
                exact step rfl rfl hk hr2 he.symm hu rfl (fun u u' h1 h2 => by simp only [Den] at h1 h2; subst h1; subst h2; exact run_equalIn_int w d _ _ _ _ _ hu)
              · cases he
            · cases he
      · rename_i hu
        rw [Option.map_eq_some_iff] at hf
        obtain ⟨ks', hk, rfl⟩ := hf
        cases cs with
        | nil => simp [eqCellsA] at he
        | cons c cs' => cases ds with
          | nil => cases c <;> simp [eqCellsA] at he
          | cons c' ds' =>
            cases c <;> cases c' <;> simp only [eqCellsA, reduceCtorEq] at he
            split at he
            · rename_i r2 hr2
              simp only [Option.some.injEq] at he
              exact step rfl rfl hk hr2 he.symm hu rfl (fun u u' h1 h2 => by simp only [Den] at h1 h2; subst h1; subst h2; exact run_equalIn_bool' w d _ _ _ hu)
            · cases he
      · rename_i hu
        rw [Option.map_eq_some_iff] at hf
        obtain ⟨ks', hk, rfl⟩ := hf
        cases cs with
        | nil => simp [eqCellsA] at he
        | cons c cs' => cases ds with
          | nil => cases c <;> simp [eqCellsA] at he
          | cons c' ds' =>
            cases c <;> cases c' <;> simp only [eqCellsA, reduceCtorEq] at he
            split at he
            · rename_i r2 hr2
              simp only [Option.some.injEq] at he
              exact step rfl rfl hk hr2 he.symm hu rfl (fun u u' h1 h2 => by simp only [Den] at h1 h2; subst h1; subst h2; rw [run_equalIn_string w d _ _ _ hu, ba_toList, ba_toList])
            · cases he
      · cases hf
    · cases hf

def eqAggA (P : Program) (op : BinOp) (t : TypeId) (cs ds : List AV) : Option AV :=
  match flatEq P t with
  | some ks => match eqCellsA ks cs ds with
    | some r => match op with
      | .eql => some (.bool r)
      | .neq => some (.bool (!r))
      | _ => none
    | none => none
  | none => none

theorem does_eqAgg {op : BinOp} {t yt : TypeId} {a b : Operand} {cs ds : List AV} (ho : o.op = .binOp op t a b yt) (hr : Rel wc ok0 fp ι h w)
    (ha : Den w (okN wc ok0 ι h) ι (.agg cs) (ρ a)) (hb : Den w (okN wc ok0 ι h) ι (.agg ds) (ρ b)) (hl : eqAggA P op t cs ds = some x) : Does P ρ o wc ok0 fp ι h w x h := by
  obtain ⟨us, ea, hus⟩ := ha
  obtain ⟨vs, eb, hvs⟩ := hb
  unfold eqAggA at hl
  split at hl
  · rename_i ks hf
    split at hl
    · rename_i r he
      unfold flatEq at hf
      split at hf
      · rename_i fs hu
        split at hf
        · rename_i hc
          have hfo : P.fieldsOf t = fs := by simp [Program.fieldsOf, hu]
          have hq : (Op.equalIn 10000 t (.agg us.toArray) (.agg vs.toArray)).run P w = .ok r w := by
            rw [show (10000 : Nat) = 9999 + 1 from rfl, run_equalIn_struct w 9999 t _ _ (by rw [hfo]; exact hu) hc.1, hfo]
            exact run_eqFields (d := 9998) hf he hus hvs (fun j u h => by simpa using h) (fun j u h => by simpa using h)
          have hg : ∀ op', (eqGuard op' t a b (ρ a) (ρ b)).run P w = .ok () w := fun op' => by rw [ea, eb]; exact run_eqGuard_agg w op' t a b _ _ hc.2
          have hex : ∀ v, (binOp op t (ρ a) (ρ b)).run P w = .ok v w → (execOp ρ o).run P w = .ok (.value v) w := by
            intro v hv
            cases op <;> first
              | (simp only [execOp, ho, Sem.run_bind, hg, Result.andThen_ok, hv, Sem.run_pure]; done)
              | (simp only [reduceCtorEq] at hl)
          cases op <;> simp only [reduceCtorEq, Option.some.injEq] at hl
          · subst hl
            refine Does.quiet hr (v := .bool r) (hex _ ?_) rfl
            rw [ea, eb, run_eql_struct, hq]; rfl
          · subst hl
            refine Does.quiet hr (v := .bool (!r)) (hex _ ?_) rfl
            rw [ea, eb, run_neq_struct, hq]; rfl
        · cases hf
      · cases hf
    · cases hl
  · cases hl
end
end SX
