/- SX: a function's contract out of its body. -/
import Derived.Test.YtgcggepppeficaaGreatDoorSxCall
set_option linter.all false
set_option linter.unusedVariables false
set_option linter.unnecessarySimpa false
set_option linter.unusedSimpArgs false
namespace SX
open Go

/-- Arguments in their slots. -/
def argTm : Nat → List AV → List (Nat × AV)
  | _, [] => []
  | n, x :: xs => (n, x) :: argTm (n + 1) xs

theorem gtm_argTm {w : World} {ok : Nat → Prop} {ι : Names'} {rest : Array Value} : ∀ {xs : List AV} {vs : List Value} (n : Nat) (pre : List Value), pre.length = n → DenL w ok ι xs vs →
    ∀ t, Den w ok ι (gtm (argTm n xs) t) (((pre ++ vs).toArray ++ rest).getD t undef)
  | [], vs, n, pre, hn, h, t => trivial
  | x :: xs, vs, n, pre, hn, ⟨v, vs', e, h, hs⟩, t => by
    subst e
    simp only [argTm, gtm]
    split
    · rename_i ht
      subst ht; subst hn
      have : (((pre ++ v :: vs').toArray ++ rest).getD pre.length undef) = v := by
        simp [Array.getD_eq_getD_getElem?, Array.getElem?_append]
      rw [this]; exact h
    · have := gtm_argTm (rest := rest) (n + 1) (pre ++ [v]) (by simp [hn]) hs t
      simpa using this

/-- What a function's end is asked. -/
def kfin (C : Ctx) (fn : Func) (r : AV) (fp' : List Blk) : Kont :=
  bodyPostM C.F C.n C.P fn fun e w' => ∃ v ι', e = .returned v ∧ Rel C.wc C.ok0 C.fp (C.ι0 ++ ι') fp' w' ∧ Den w' (okN C.wc C.ok0 (C.ι0 ++ ι') fp') (C.ι0 ++ ι') r v

theorem acall_of {P : Program} {f : FuncId} {fn : Func} {c : Code} {args : List AV} {fp fp' : List Blk} {r : AV} (hf : P.funcs[f]? = some fn) (hn : (fn.name == "runtime.NumGoroutine") = false) (hb : fn.body = some c) {N : Nat}
    (hN : fn.ntmps = N) (hle : args.length ≤ N)
    (h : ∀ (w : World) (ok0 : Nat → Prop) (ι : Names'), ι.length = fp.length → AR { P := P, rd := none, N := N, wc := w, ok0 := ok0, ι0 := ι } c (kfin { P := P, rd := none, N := N, wc := w, ok0 := ok0, ι0 := ι } fn r fp') ⟨argTm 0 args, fp⟩) : ACall P f args fp r fp' := by
  refine ⟨fun args w => ?_, fun w ok0 ι vs hr hd => ?_⟩
  · simp only [callFunc, Sem.run_bind, run_program, Result.andThen_ok, hf, hn, Bool.false_eq_true, if_false, hb, Option.isNone_some, Sem.run_pure]
  · refine (callsIn_wide (n := 0)).1 (callsIn_of_wp_marks hf hb trivial ?_)
    have hl := denL_length hd
    refine h w ok0 ι hr.len ι _ w ⟨hr, fun t => ?_, ?_, rfl, carried_refl _, fun s hs => by simp at hs, fun p hp => by simp at hp⟩
    · have := gtm_argTm (rest := Array.replicate (fn.ntmps - vs.toArray.size) undef) 0 [] rfl hd t
      simpa using this
    · simp [hN]; omega

/-- Result variables. -/
def resA (P : Program) (S : St) : List ResultVar → Option (List AV × Prop)
  | [] => some ([], True)
  | .tmp t :: l => match resA P S l with
    | some (xs, p) => some (gtm S.tm t :: xs, p)
    | none => none
  | .cell a t :: l => match tyi P t with
    | some I => match loadA S.hp I (gtm S.tm a) with
      | some (x, q) => match resA P S l with
        | some (xs, p) => some (x :: xs, q ∧ p)
        | none => none
      | none => none
    | none => none

def tupA : List AV → AV
  | [x] => x
  | xs => .tup xs

/-- One result variable's value. -/
def resOne (tmps : Array Value) : ResultVar → Sem Value
  | .tmp t => pure (tmps.getD t undef)
  | .cell a t => do loadVar t (← asAddr (tmps.getD a undef))

theorem results_eq (fn : Func) (tmps : Array Value) : results fn tmps = (do let vs ← fn.results.mapM (resOne tmps); pure (if h : vs.size = 1 then vs[0] else .tuple vs)) := by
  rfl

theorem run_resA {C : Ctx} {S : St} {ι : Names'} {a : Act} {w : World} (hh : Here C S ι a w) : ∀ {l : List ResultVar} {xs : List AV} {p : Prop}, resA C.P S l = some (xs, p) → p →
    ∃ vs, (l.mapM (resOne a.tmps)).run C.P w = .ok vs w ∧ DenL w (okN C.wc C.ok0 ι S.hp) ι xs vs
  | [], xs, p, h, hp => by
    simp only [resA, Option.some.injEq, Prod.mk.injEq] at h
    obtain ⟨rfl, rfl⟩ := h
    exact ⟨[], by simp, rfl⟩
  | .tmp t :: l, xs, p, h, hp => by
    simp only [resA] at h
    split at h
    · rename_i ys q hq
      simp only [Option.some.injEq, Prod.mk.injEq] at h
      obtain ⟨rfl, rfl⟩ := h
      obtain ⟨vs, h1, h2⟩ := run_resA hh hq hp
      exact ⟨_ :: vs, by simp only [List.mapM_cons, resOne, Sem.run_bind, Sem.run_pure, Result.andThen_ok, h1], _, vs, rfl, hh.tm t, h2⟩
    · cases h
  | .cell b t :: l, xs, p, h, hp => by
    simp only [resA] at h
    split at h
    · rename_i I hI
      split at h
      · rename_i x q hx
        split at h
        · rename_i ys q' hq
          simp only [Option.some.injEq, Prod.mk.injEq] at h
          obtain ⟨rfl, rfl⟩ := h
          obtain ⟨vs, h1, h2⟩ := run_resA hh hq hp.2
          have hd : Does C.P (fun _ => a.tmps.getD b undef) { dst := none, op := .load t (.tmp b), type := 0, pos := "", after := #[], guard := none } C.wc C.ok0 C.fp ι S.hp w x S.hp := does_load rfl hI hh.rel (hh.tm b) hx hp.1
          unfold loadA at hx
          split at hx
          · rename_i cs pc hc
            split at hx
            · rename_i hag
              simp only [Option.some.injEq, Prod.mk.injEq] at hx
              obtain ⟨rfl, rfl⟩ := hx
              obtain ⟨hq1, hlen⟩ := hp.1
              obtain ⟨bb, off, he, hreads⟩ := cellsAt_spec hh.rel hc hq1 (hh.tm b)
              have hreads' : Reads w (okN C.wc C.ok0 ι S.hp) ι bb off (cs.take I.size) := fun j x hx => by
                rw [List.getElem?_take] at hx
                split at hx
                · exact hreads j x hx
                · cases hx
              obtain ⟨v, hv, hdv⟩ := run_loadVar_reads hI hreads' (by simp; omega) (fun hf => hag.resolve_left (by simp [hf]))
              exact ⟨v :: vs, by simp only [List.mapM_cons, resOne, Sem.run_bind, he, asAddr, Sem.run_pure, Result.andThen_ok, hv, h1], v, vs, rfl, hdv, h2⟩
            · cases hx
          · cases hx
        · cases h
      · cases h
    · cases h

/-- Own slices as data, where their blocks are given up. -/
def cellsOfRows (m o len : Nat) (l : List (List AV)) : AV := .xs m ((l.drop o).take len)
mutual
def pubA (h : List Blk) (κ : List Nat) : AV → AV
  | .own n m o len => if κ.contains n then .own n m o len else match h[n]? with
    | some (.rows _ _ _ l) => cellsOfRows m o len l
    | _ => .any
  | .agg cs => .agg (pubL h κ cs)
  | .tup cs => .tup (pubL h κ cs)
  | .iface t x => .iface t (pubA h κ x)
  | x => x
def pubL (h : List Blk) (κ : List Nat) : List AV → List AV
  | [] => []
  | c :: cs => pubA h κ c :: pubL h κ cs
end
mutual
/-- What giving up asks. -/
def pubV (h : List Blk) (κ : List Nat) (p : Nat) : AV → Prop
  | .own n m o len => κ.contains n = false → match h[n]? with
    | some (.rows _ m' _ l) => m' = m ∧ o + len ≤ l.length ∧ p ≤ n
    | _ => True
  | .ptr n _ => κ.contains n = true
  | .rptr n _ _ _ => κ.contains n = true
  | .agg cs => pubVL h κ p cs
  | .tup cs => pubVL h κ p cs
  | .iface _ x => pubV h κ p x
  | .func _ fs cs => pubVL h κ p fs ∧ pubVL h κ p cs ∧ pubL h κ fs = fs ∧ pubL h κ cs = cs
  | .gd _ _ => False
  | _ => True
def pubVL (h : List Blk) (κ : List Nat) (p : Nat) : List AV → Prop
  | [] => True
  | c :: cs => pubV h κ p c ∧ pubVL h κ p cs
end

/-- What an abstract value says another says too. -/
def Sub (a b : AV) : Prop := ∀ w ok ι v, Den w ok ι a v → Den w ok ι b v
theorem Sub.refl (a : AV) : Sub a a := fun _ _ _ _ h => h
theorem Sub.of_eq {a b : AV} (h : a = b) : Sub a b := h ▸ Sub.refl a
theorem Sub.nil {m : Nat} {l : List (List AV)} (h : l = []) : Sub .nilsl (.xs m l) := fun _ _ _ v hd => by
  subst h; simp only [Den] at hd ⊢; exact ⟨none, 0, by simpa using hd, by simp, trivial⟩
theorem Sub.zero {m : Nat} {l : List (List AV)} (h : l = []) : Sub .zsl (.xs m l) := fun _ _ _ v hd => by
  subst h; simp only [Den] at hd ⊢; obtain ⟨a, rfl⟩ := hd; exact ⟨a, 0, by simp, by simp, trivial⟩
theorem Sub.any (a : AV) : Sub a .any := fun _ _ _ _ _ => trivial

inductive SubL : List AV → List AV → Prop
  | nil : SubL [] []
  | cons {a b : AV} {as bs : List AV} (h : Sub a b) (hs : SubL as bs) : SubL (a :: as) (b :: bs)
theorem SubL.refl : ∀ as : List AV, SubL as as
  | [] => .nil
  | a :: as => .cons (.refl a) (SubL.refl as)
theorem SubL.den {w : World} {ok : Nat → Prop} {ι : Names'} {as bs : List AV} (h : SubL as bs) : ∀ {vs : List Value}, DenL w ok ι as vs → DenL w ok ι bs vs := by
  induction h with
  | nil => intro vs h; exact h
  | cons h _ ih => rintro vs ⟨v, vs', e, h1, h2⟩; exact ⟨v, vs', e, h _ _ _ _ h1, ih h2⟩
theorem Sub.agg {as bs : List AV} (h : SubL as bs) : Sub (.agg as) (.agg bs) := fun _ _ _ _ ⟨vs, e, hd⟩ => ⟨vs, e, h.den hd⟩
theorem Sub.tup {as bs : List AV} (h : SubL as bs) : Sub (.tup as) (.tup bs) := fun _ _ _ _ ⟨vs, e, hd⟩ => ⟨vs, e, h.den hd⟩

inductive SubB : Blk → Blk → Prop
  | box {T : TypeId} {as bs : List AV} (h : SubL as bs) : SubB (.box T as) (.box T bs)
  | refl (b : Blk) : SubB b b
  | dead (b : Blk) : SubB b .dead
theorem SubB.at {w : World} {ok : Nat → Prop} {ι : Names'} {b c : Nat} {x y : Blk} (h : SubB x y) (hb : BlkAt w ok ι b c x) : BlkAt w ok ι b c y := by
  cases h with
  | box h => obtain ⟨vs, fz, h1, h2, h3⟩ := hb; exact ⟨vs, fz, h1, h2, h.den h3⟩
  | refl => exact hb
  | dead => trivial

def Blk.pub (h : List Blk) (κ : List Nat) : Blk → Blk
  | .box T cs => .box T (pubL h κ cs)
  | b => b
def Blk.pubV (h : List Blk) (κ : List Nat) (p : Nat) : Blk → Prop
  | .box T cs => pubVL h κ p cs
  | _ => True

theorem run_results {C : Ctx} {S : St} {ι : Names'} {a : Act} {w : World} {fn : Func} (hh : Here C S ι a w) {xs : List AV} {p : Prop} (h : resA C.P S fn.results.toList = some (xs, p)) (hp : p) :
    ∃ v, (results fn a.tmps).run C.P w = .ok v w ∧ Den w (okN C.wc C.ok0 ι S.hp) ι (tupA xs) v := by
  obtain ⟨vs, h1, h2⟩ := run_resA hh h hp
  rw [results_eq]
  have h3 : (fn.results.mapM (resOne a.tmps)).run C.P w = .ok vs.toArray w := by
    rw [Array.mapM_eq_mapM_toList]
    simp only [Sem.run_map, h1, Result.andThen_ok]
  simp only [Sem.run_bind, h3, Result.andThen_ok, Sem.run_pure]
  refine ⟨_, rfl, ?_⟩
  have hl := denL_length h2
  match xs, vs, hl with
  | [], [], _ => exact ⟨[], by simp, rfl⟩
  | [x], [v], _ =>
    obtain ⟨v', vs', e, hd, _⟩ := h2
    cases e
    simpa [tupA] using hd
  | x :: y :: xs, v :: u :: vs, _ =>
    have : ¬ ((v :: u :: vs).toArray.size = 1) := by simp
    rw [dif_neg this]
    exact ⟨_, rfl, h2⟩
end SX
