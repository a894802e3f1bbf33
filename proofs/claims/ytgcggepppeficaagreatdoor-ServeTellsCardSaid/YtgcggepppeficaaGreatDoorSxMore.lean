/- SX: further operations. -/
import Derived.Test.YtgcggepppeficaaGreatDoorSxEq
import Derived.Test.YtgcggepppeficaaGreatDoorSxNew
import Derived.Laws.LoneSync
set_option linter.all false
set_option linter.unusedVariables false
set_option linter.unnecessarySimpa false
set_option linter.unusedSimpArgs false
namespace SX
open Go

/-- Is a type's value several cells? -/
def aggT (P : Program) (t : TypeId) : Bool :=
  match P.underlying t with
  | some (.struct _) => true
  | some (.array _ _) => true
  | _ => false
/-- A field's place. -/
def fldA (P : Program) (t f : Nat) : Option (Nat × Nat × Bool) :=
  match P.underlying t with
  | some (.struct fs) => match fs[f]? with
    | some fd => match P.info? fd.type, P.underlying fd.type with
      | some i, some _ => some (fd.offset, i.size, aggT P fd.type)
      | _, _ => none
    | none => none
  | _ => none
/-- An array's elements. -/
def idxA (P : Program) (t : Nat) : Option (Nat × Nat × Bool) :=
  match P.underlying t with
  | some (.array n e) => match P.info? e, P.underlying e with
    | some i, some _ => some (n, i.size, aggT P e)
    | _, _ => none
  | _ => none
/-- What an unsafe.Pointer's type, and a pointer's, are. -/
def unsA (P : Program) (s d : Nat) : Option (Nat × Bool) :=
  match P.underlying s, P.underlying d with
  | some (.pointer e), some .unsafePointer => if (P.info? e).map (fun i => decide (i.size = 0)) = some false then some (e, true) else none
  | some .unsafePointer, some (.pointer e) => if (P.info? e).map (fun i => decide (i.size = 0)) = some false then some (e, false) else none
  | _, _ => none
def layA (P : Program) (T n o u : Nat) : Bool := liesAt P P.depth T (n / P.cellsOf T) o u 1

/-- Equal places. -/
def eqOpA (P : Program) (t : Nat) (a b : AV) : Option Bool :=
  match tyi P t with
  | some I => match I.sh, a, b with
    | .ptr _, .nilptr, .nilptr => some true
    | .ptr _, .ptr _ _, .nilptr => some false
    | .ptr _, .rptr _ _ _ _, .nilptr => some false
    | .ptr _, .nilptr, .ptr _ _ => some false
    | .ptr e, .ptr n o, .ptr n' o' => match tyi P e with
      | some J => if n = n' ∧ J.size ≠ 0 then some (o == o') else none
      | none => none
    | .iface, .iface _ _, .niliface => some false
    | .func, .func _ _ _, .nilfunc => some false
    | .func, .nilfunc, .nilfunc => some true
    | .slice _ _ _ _, .nilsl, .nilsl => some true
    | .slice _ _ _ _, .own _ _ _ _, .nilsl => some false
    | _, _, _ => none
  | none => none

def moreCall (P : Program) (b : Builtin) (as : List AV) (tys : List TypeId) : Option (AV × Prop) :=
  match b, as, tys with
  | .unsafeSliceData, [.nilsl], _ => some (.nilptr, True)
  | .unsafeSliceData, [.own n m o len], _ => some (.rptr n m o 0, 0 < len)
  | .cap, [.nilsl], [t] => match tyi P t with
    | some I => match I.sh with
      | .slice _ _ _ _ => some (.int .i64 0, True)
      | _ => none
    | none => none
  | _, _, _ => none

def moreOp (P : Program) (ev : Operand → AV) (hp : List Blk) (o : Op) : Option (AV × Prop) :=
  match o with
  | .binOp op t a b _ => match eqOpA P t (ev a) (ev b) with
    | some q => match op with
      | .eql => some (.bool q, True)
      | .neq => some (.bool (!q), True)
      | _ => none
    | none => none
  | .convert s d a => match unsA P s d with
    | some (e, to) => match ev a with
      | .nilptr => some (.nilptr, True)
      | .ptr n o => match hp[n]? with
        | some (.box T cs) => some (.ptr n o, o < cs.length ∧ (to = false → layA P T cs.length o e = true))
        | _ => none
      | _ => none
    | none => none
  | .field t a f => match fldA P t f with
    | some (off, size, ag) => match ev a with
      | .agg cs => some (joinA ag ((cs.drop off).take size), off + size ≤ cs.length ∧ (ag = false → size = 1))
      | _ => none
    | none => none
  | .index t a i => match idxA P t with
    | some (n, size, ag) => match ev a, ev i with
      | .agg cs, .int _ k => some (joinA ag ((cs.drop (k.toNat * size)).take size), 0 ≤ k ∧ k < n ∧ n * size = cs.length ∧ (ag = false → size = 1))
      | _, _ => none
    | none => none
  | .call c => match c.callee with
    | .builtin b => moreCall P b (c.args.toList.map ev) c.argTypes.toList
    | _ => none
  | _ => none

theorem moreOp_congr {P : Program} {ev ev' : Operand → AV} {hp : List Blk} {o : Op} (h : ∀ x ∈ o.operands.toList, ev x = ev' x) : moreOp P ev hp o = moreOp P ev' hp o := by
  cases o <;> simp only [moreOp]
  case binOp op t a b y => rw [h a (by simp [Op.operands]), h b (by simp [Op.operands])]
  case convert s d a => rw [h a (by simp [Op.operands])]
  case field t a f => rw [h a (by simp [Op.operands])]
  case index t a i => rw [h a (by simp [Op.operands]), h i (by simp [Op.operands])]
  case call c =>
    obtain ⟨callee, args, tys⟩ := c
    simp only
    split
    · have : args.toList.map ev = args.toList.map ev' := List.map_congr_left fun x hx => h x (by simp only [Op.operands, Call.operands]; simpa using hx)
      rw [this]
    · rfl

section
variable {P : Program} {ρ : Operand → Value} {o : Oper} {wc : World} {ok0 : Nat → Prop} {fp : List Nat} {ι : Names'} {h h' : List Blk} {w w' : World} {x : AV} {v : Value}

theorem equal_eq (t : TypeId) (x y : Value) : Op.equal t x y = Op.equalIn (9999 + 1) t x y := rfl
theorem tyi_more {t : TypeId} {I : TyI} (h : tyi P t = some I) : (I.sh = .iface → ∃ ms, P.underlying t = some (.interface ms)) ∧ (I.sh = .func → ∃ a b c, P.underlying t = some (.func a b c)) := by
  unfold tyi at h
  split at h
  · rename_i i d hi hd
    split at h
    · cases h
    · dsimp only at h
      split at h
      all_goals first
        | (cases h; refine ⟨fun hk => ?_, fun hk => ?_⟩ <;> first | (cases hk; done) | exact ⟨_, hd⟩ | exact ⟨_, _, _, hd⟩)
        | (split at h
           · split at h
             · split at h
               · cases h; refine ⟨fun hk => ?_, fun hk => ?_⟩ <;> cases hk
               · cases h
             · cases h
           · cases h)
        | (split at h
           · cases h; refine ⟨fun hk => ?_, fun hk => ?_⟩ <;> cases hk
           · cases h)
  · cases h
theorem tyi_iface {t : TypeId} {I : TyI} (h : tyi P t = some I) (hs : I.sh = .iface) : ∃ ms, P.underlying t = some (.interface ms) := (tyi_more h).1 hs
theorem tyi_func {t : TypeId} {I : TyI} (h : tyi P t = some I) (hs : I.sh = .func) : ∃ a b c, P.underlying t = some (.func a b c) := (tyi_more h).2 hs

theorem run_isAgg {t : TypeId} {d : TypeDesc} (hd : P.underlying t = some d) : (isAgg t).run P w = .ok (aggT P t) w := by
  simp only [isAgg, Sem.run_bind, run_underlying hd, Result.andThen_ok, aggT, hd]
  cases d <;> rfl

theorem run_partA {t : TypeId} {d : TypeDesc} {i : TypeInfo} (hd : P.underlying t = some d) (hi : P.info? t = some i) {cs : List AV} {vs : List Value} {ok : Nat → Prop} {off : Nat} (hden : DenL w ok ι cs vs) (hl : off + i.size ≤ cs.length)
    (h1 : aggT P t = false → i.size = 1) : ∃ v, (part t vs.toArray off).run P w = .ok v w ∧ Den w ok ι (joinA (aggT P t) ((cs.drop off).take i.size)) v := by
  have hlen := denL_length hden
  simp only [part, Sem.run_bind, run_isAgg hd, Result.andThen_ok]
  cases hg : aggT P t with
  | true =>
    simp only [if_true, Sem.run_bind]
    have hs : (Go.sizeOf t).run P w = .ok i.size w := by rw [run_sizeOf _ hi]; simp [Program.cellsOf, hi]
    rw [hs]
    refine ⟨_, rfl, (vs.drop off).take i.size, ?_, ?_⟩
    · congr 1
      apply Array.ext'
      simp
    · refine denL_iff.2 ⟨by simp; omega, fun j x hx => ?_⟩
      rw [List.getElem?_take] at hx
      split at hx
      · rename_i hj
        rw [List.getElem?_drop] at hx
        obtain ⟨u, hu, hd'⟩ := (denL_iff.1 hden).2 _ _ hx
        exact ⟨u, by rw [List.getElem?_take, if_pos hj, List.getElem?_drop]; exact hu, hd'⟩
      · cases hx
  | false =>
    have h1' := h1 hg
    simp only [Bool.false_eq_true, if_false]
    obtain ⟨c, hc⟩ : ∃ c, cs[off]? = some c := ⟨_, List.getElem?_eq_getElem (by omega)⟩
    obtain ⟨u, hu, hd'⟩ := (denL_iff.1 hden).2 _ _ hc
    refine ⟨u, by simp [hu], ?_⟩
    have : (cs.drop off).take i.size = [c] := by
      rw [h1']
      have hlt := (List.getElem?_eq_some_iff.1 hc)
      rw [List.drop_eq_getElem_cons hlt.1, List.take_succ_cons, List.take_zero, hlt.2]
    rw [this]; exact hd'

theorem map_one {ev : Operand → AV} {l : Array Operand} {y : AV} (h : l.toList.map ev = [y]) : ∃ a, l = #[a] ∧ ev a = y := by
  obtain ⟨l⟩ := l
  cases l with
  | nil => simp at h
  | cons a l => cases l with
    | nil => exact ⟨a, rfl, by simpa using h⟩
    | cons b l => simp at h
theorem map_two {ev : Operand → AV} {l : Array Operand} {y z : AV} (h : l.toList.map ev = [y, z]) : ∃ a b, l = #[a, b] ∧ ev a = y ∧ ev b = z := by
  obtain ⟨l⟩ := l
  cases l with
  | nil => simp at h
  | cons a l => cases l with
    | nil => simp at h
    | cons b l => cases l with
      | nil => simp at h; exact ⟨a, b, rfl, h.1, h.2⟩
      | cons c l => simp at h

theorem shape_cells {b : Nat} {cs : Array Value} {T : TypeId} {fz : Nat × Nat} (hb : w.heap[b]? = some (.cells cs T fz)) : w.shape? b = some (T, cs.size) := by
  unfold World.shape?; rw [hb]

theorem does_more (ev : Operand → AV) (hev : ∀ x, Den w (okN wc ok0 ι h) ι (ev x) (ρ x)) (hr : Rel wc ok0 fp ι h w) {p : Prop} (hl : moreOp P ev h o.op = some (x, p)) (hp : p) : Does P ρ o wc ok0 fp ι h w x h := by
  cases ho : o.op <;> rw [ho] at hl <;> simp only [moreOp, reduceCtorEq] at hl
  case binOp op t a b yt =>
    split at hl
    · rename_i q hq
      have ha := hev a
      have hb := hev b
      have key : (∀ d, (Op.equalIn (d + 1) t (ρ a) (ρ b)).run P w = .ok q w) ∧ (∀ op, (eqGuard op t a b (ρ a) (ρ b)).run P w = .ok () w) ∧ binOp .eql t (ρ a) (ρ b) = (do pure (.bool (← Op.equal t (ρ a) (ρ b)))) ∧ binOp .neq t (ρ a) (ρ b) = (do pure (.bool (!(← Op.equal t (ρ a) (ρ b))))) := by
        unfold eqOpA at hq
        split at hq
        · rename_i I hI
          split at hq
          · rename_i e hs h1 h2
            cases hq
            rw [h1] at ha; rw [h2] at hb
            simp only [Den] at ha hb
            rw [ha, hb]
            refine ⟨?_, fun op => by cases op <;> rfl, rfl, rfl⟩
            intro d
            simp [Op.equalIn, run_underlying ((tyi_plain hI).2.2.2 _ hs)]
          · rename_i e n o hs h1 h2
            cases hq
            rw [h1] at ha; rw [h2] at hb
            obtain ⟨b1, c1, _, ha⟩ := ha
            simp only [Den] at hb
            rw [ha, hb]
            refine ⟨?_, fun op => by cases op <;> rfl, rfl, rfl⟩
            intro d
            simp [Op.equalIn, run_underlying ((tyi_plain hI).2.2.2 _ hs)]
          · rename_i e n m i j hs h1 h2
            cases hq
            rw [h1] at ha; rw [h2] at hb
            obtain ⟨b1, c1, _, ha⟩ := ha
            simp only [Den] at hb
            rw [ha, hb]
            refine ⟨?_, fun op => by cases op <;> rfl, rfl, rfl⟩
            intro d
            simp [Op.equalIn, run_underlying ((tyi_plain hI).2.2.2 _ hs)]
          · rename_i e n o hs h1 h2
            cases hq
            rw [h1] at ha; rw [h2] at hb
            obtain ⟨b1, c1, _, hb⟩ := hb
            simp only [Den] at ha
            rw [ha, hb]
            refine ⟨?_, fun op => by cases op <;> rfl, rfl, rfl⟩
            intro d
            simp [Op.equalIn, run_underlying ((tyi_plain hI).2.2.2 _ hs)]
          · rename_i e n o n' o' hs h1 h2
            split at hq
            · rename_i J hJ
              split at hq
              · rename_i hc
                obtain ⟨rfl, hne⟩ := hc
                cases hq
                rw [h1] at ha; rw [h2] at hb
                obtain ⟨b1, c1, e1, ha⟩ := ha
                obtain ⟨b2, c2, e2, hb⟩ := hb
                rw [e1] at e2; cases e2
                rw [ha, hb]
                refine ⟨?_, fun op => by cases op <;> rfl, rfl, rfl⟩
                obtain ⟨i, z, hi, _, hsz, _⟩ := tyi_info hJ
                have hs' : (Go.sizeOf e).run P w = .ok J.size w := by rw [run_sizeOf _ hi]; simp [Program.cellsOf, hi, hsz]
                intro d
                simp [Op.equalIn, run_underlying ((tyi_plain hI).2.2.2 _ hs), hs', hne, sameAddr]
                have : ((⟨b1, o, none⟩ : Addr) == ⟨b1, o', none⟩) = (o == o') := by
                  rw [Bool.eq_iff_iff]; simp
                rw [this]
              · cases hq
            · cases hq
          · rename_i hs h1 h2
            cases hq
            rw [h1] at ha; rw [h2] at hb
            obtain ⟨u, ha, _⟩ := ha
            simp only [Den] at hb
            rw [ha, hb]
            obtain ⟨ms, hu⟩ := tyi_iface hI hs
            refine ⟨?_, fun op => by cases op <;> rfl, rfl, rfl⟩
            intro d
            simp [Op.equalIn, run_underlying hu]
          · rename_i hs h1 h2
            cases hq
            rw [h1] at ha; rw [h2] at hb
            obtain ⟨u, u', ha, _⟩ := ha
            simp only [Den] at hb
            rw [ha, hb]
            obtain ⟨p1, p2, p3, hu⟩ := tyi_func hI hs
            refine ⟨?_, fun op => by cases op <;> rfl, rfl, rfl⟩
            intro d
            simp [Op.equalIn, run_underlying hu]
          · rename_i hs h1 h2
            cases hq
            rw [h1] at ha; rw [h2] at hb
            simp only [Den] at ha hb
            rw [ha, hb]
            obtain ⟨p1, p2, p3, hu⟩ := tyi_func hI hs
            refine ⟨?_, fun op => by cases op <;> rfl, rfl, rfl⟩
            intro d
            simp [Op.equalIn, run_underlying hu]
          · rename_i hs h1 h2
            cases hq
            rw [h1] at ha; rw [h2] at hb
            simp only [Den] at ha hb
            rw [ha, hb]
            refine ⟨?_, fun op => by cases op <;> rfl, rfl, rfl⟩
            intro d
            simp [Op.equalIn, run_underlying (tyi_slice hI hs).1]
          · rename_i hs h1 h2
            cases hq
            rw [h1] at ha; rw [h2] at hb
            obtain ⟨b1, c1, ad, _, _, _, ha⟩ := ha
            simp only [Den] at hb
            rw [ha, hb]
            refine ⟨?_, fun op => by cases op <;> rfl, rfl, rfl⟩
            intro d
            simp [Op.equalIn, run_underlying (tyi_slice hI hs).1]
          · cases hq
        · cases hq
      obtain ⟨k1', k2, k3, k4⟩ := key
      have k1 : (Op.equal t (ρ a) (ρ b)).run P w = .ok q w := k1' 9999
      split at hl
      · cases hl
        refine Does.quiet hr (v := .bool q) ?_ rfl
        simp only [execOp, ho, Sem.run_bind, k2, k3, k1, Result.andThen_ok, Sem.run_pure]
      · cases hl
        refine Does.quiet hr (v := .bool (!q)) ?_ rfl
        simp only [execOp, ho, Sem.run_bind, k2, k4, k1, Result.andThen_ok, Sem.run_pure]
      · cases hl
    · cases hl
  case convert s d a =>
    split at hl
    · rename_i e to hun
      have hun' : (to = true ∧ P.underlying s = some (.pointer e) ∧ P.underlying d = some .unsafePointer ∧ (P.info? e).map (fun i => decide (i.size = 0)) = some false) ∨
          (to = false ∧ P.underlying s = some .unsafePointer ∧ P.underlying d = some (.pointer e) ∧ (P.info? e).map (fun i => decide (i.size = 0)) = some false) := by
        unfold unsA at hun
        split at hun
        · rename_i h1 h2
          split at hun
          · rename_i hc; cases hun; exact .inl ⟨rfl, h1, h2, hc⟩
          · cases hun
        · rename_i h1 h2
          split at hun
          · rename_i hc; cases hun; exact .inr ⟨rfl, h1, h2, hc⟩
          · cases hun
        · cases hun
      have ha := hev a
      split at hl
      · rename_i he; cases hl
        rw [he] at ha; simp only [Den] at ha
        refine Does.quiet hr (v := .pointer none) ?_ rfl
        simp only [execOp, ho, ha]
        rcases hun' with ⟨_, h1, h2, _⟩ | ⟨_, h1, h2, _⟩
        · simp [convert, Conv.unsafePointer, run_underlying h1, run_underlying h2]
        · simp [convert, Conv.unsafePointer, run_underlying h1, run_underlying h2]
      · rename_i n oo he
        split at hl
        · rename_i T cs hn; cases hl
          rw [he] at ha
          obtain ⟨b, c, hi, ha⟩ := ha
          obtain ⟨us, fz, hb, hfz, hd⟩ := hr.get hn rfl hi
          have hul := denL_length hd
          simp only [Array.length_toList] at hul
          have hcell : w.cell? ⟨b, oo, none⟩ = some (us[oo]'(by omega)) := by
            simp [World.cell?, hb, Array.getElem?_eq_getElem (show oo < us.size by omega)]
          refine Does.quiet hr (v := .pointer (some ⟨b, oo, none⟩)) ?_ ⟨b, c, hi, rfl⟩
          simp only [execOp, ho, ha]
          rcases hun' with ⟨_, h1, h2, h3⟩ | ⟨h0, h1, h2, h3⟩
          · rw [Sem.run_bind, run_convert_to_unsafe h1 h2 h3 hcell]; rfl
          · have hlay := hp.2 h0
            obtain ⟨i, hi', hz0⟩ := Option.map_eq_some_iff.1 h3
            have hz : i.size ≠ 0 := by simpa using hz0
            rw [hul] at hlay
            unfold layA at hlay
            simp [convert, Conv.unsafePointer, Conv.seenAt, viewAt, run_underlying h1, run_underlying h2, shape_cells hb, Go.sizeOf, typeInfo, hi', hz, variablesAt, hlay, Result.andThen]
        · cases hl
      · cases hl
    · cases hl
  case field t a f =>
    split at hl
    · rename_i off size ag hf
      split at hl
      · rename_i cs he; cases hl
        have ha := hev a
        rw [he] at ha
        obtain ⟨vs, hv, hd⟩ := ha
        unfold fldA at hf
        split at hf
        · rename_i fs hu
          split at hf
          · rename_i fd hfd
            split at hf
            · rename_i i d hi hd'
              simp only [Option.some.injEq, Prod.mk.injEq] at hf
              obtain ⟨rfl, rfl, rfl⟩ := hf
              obtain ⟨v, hv', hden⟩ := run_partA hd' hi hd hp.1 hp.2
              refine Does.quiet hr (v := v) ?_ hden
              simp only [execOp, ho, hv, Instr.field, Sem.run_bind, run_underlying hu, Result.andThen_ok, hfd, asAgg, Sem.run_pure, hv']
            · cases hf
          · cases hf
        · cases hf
      · cases hl
    · cases hl
  case index t a ix =>
    split at hl
    · rename_i n size ag hf
      split at hl
      · rename_i cs k i he hi; cases hl
        have ha := hev a
        rw [he] at ha
        obtain ⟨vs, hv, hd⟩ := ha
        have hiv := hev ix
        rw [hi] at hiv
        simp only [Den] at hiv
        unfold idxA at hf
        split at hf
        · rename_i n' e hu
          split at hf
          · rename_i inf d hinf hd'
            simp only [Option.some.injEq, Prod.mk.injEq] at hf
            obtain ⟨rfl, rfl, rfl⟩ := hf
            obtain ⟨p1, p2, p3, p4⟩ := hp
            have hbound : i.toNat * inf.size + inf.size ≤ cs.length := by
              rw [← p3, ← Nat.succ_mul]
              exact Nat.mul_le_mul_right _ (by omega)
            obtain ⟨v, hv', hden⟩ := run_partA hd' hinf hd hbound p4
            refine Does.quiet hr (v := v) ?_ hden
            have hs : (Go.sizeOf e).run P w = .ok inf.size w := by rw [run_sizeOf _ hinf]; simp [Program.cellsOf, hinf]
            simp only [execOp, ho, hv, hiv, Instr.index, asIntOf, Sem.run_bind, run_underlying hu, Result.andThen_ok, Sem.run_pure, if_pos (And.intro p1 p2), hs, hv']
          · cases hf
        · cases hf
      · cases hl
    · cases hl
  case call c =>
    obtain ⟨callee, args, tys⟩ := c
    simp only at hl
    split at hl
    · rename_i b
      unfold moreCall at hl
      split at hl
      · rename_i has
        cases hl
        obtain ⟨a, hargs, he⟩ := map_one has
        subst hargs
        have ha := hev a
        rw [he] at ha; simp only [Den] at ha
        refine Does.quiet hr (v := .pointer none) ?_ rfl
        have hx : (Builtin.unsafeSliceData_ tys o.type #[.slice none 0 0]).run P w = .ok (.pointer none) w := rfl
        simp [execOp, ho, resolve, invoke, builtin, ha, hx]
      · rename_i n m oo len has
        cases hl
        obtain ⟨a, hargs, he⟩ := map_one has
        subst hargs
        have ha := hev a
        rw [he] at ha
        obtain ⟨b, c, ad, hi, hle, had, ha⟩ := ha
        have hlt : oo < c := by omega
        refine Does.quiet hr (v := .pointer (some ⟨b, ad, none⟩)) ?_ ⟨b, c, hi, by rw [had hlt]; simp⟩
        have hne : ¬ (c - oo = 0) := by omega
        have hx : (Builtin.unsafeSliceData_ tys o.type #[.slice (some ⟨b, ad, none⟩) len (c - oo)]).run P w = .ok (.pointer (some ⟨b, ad, none⟩)) w := by
          change Sem.run P (if c - oo ≠ 0 then pure (Value.pointer (some ⟨b, ad, none⟩)) else _) w = _
          rw [if_pos hne]; rfl
        simp [execOp, ho, resolve, invoke, builtin, ha, hx]
      · rename_i t has htys
        split at hl
        · rename_i I hI
          split at hl
          · rename_i e m by' zr hs
            cases hl
            obtain ⟨a, hargs, he⟩ := map_one has
            subst hargs
            have htys : tys = #[t] := by rw [← Array.toList_inj]; exact htys
            subst htys
            have ha := hev a
            rw [he] at ha; simp only [Den] at ha
            refine Does.quiet hr (v := .int .i64 0) ?_ rfl
            simp [execOp, ho, resolve, invoke, builtin, Builtin.cap_, ha, run_underlying (tyi_slice hI hs).1, goInt]
          · cases hl
        · cases hl
      · cases hl
    · cases hl
end
end SX

/- SX: further operations that turn own blocks: unsafe.String, copy. -/
namespace SX
open Go

def isU8' (P : Program) (e : TypeId) : Bool :=
  match tyi P e with
  | some K => match K.sh with
    | .int .u8 => K.size == 1
    | _ => false
  | none => false
theorem isU8'_spec {P : Program} {e : TypeId} (h : isU8' P e = true) : ∃ K, tyi P e = some K ∧ K.sh = .int .u8 ∧ K.size = 1 := by
  unfold isU8' at h
  split at h
  · rename_i K hK
    split at h
    · rename_i hs; exact ⟨K, hK, hs, by simpa using h⟩
    · cases h
  · cases h

/-- A source's rows, or a text's bytes. -/
def srcB (hp : List Blk) (m : Nat) (x : AV) : Option (List (List AV) × Prop) :=
  match x with
  | .str s => if m = 1 then some (s.map fun b => [.int .u8 (b.toNat : Int)], True) else none
  | x => srcA hp m x

def copyA (hp : List Blk) (m : Nat) (a b : AV) : Option (AV × List Blk × Prop) :=
  match a with
  | .own n m' o len => match hp[n]? with
    | some (.rows e m'' fl l) => match srcB hp m b with
      | some (ls, q) => some (.int .i64 (min ls.length len : Nat), hp.set n (.rows e m'' fl (l.take o ++ ls.take (min ls.length len) ++ l.drop (o + min ls.length len))), q ∧ m' = m ∧ m'' = m ∧ fl ≠ 3 ∧ o + len ≤ l.length)
      | none => none
    | _ => none
  | _ => none

def moreLoud (P : Program) (ev : Operand → AV) (hp : List Blk) (o : Op) : Option (AV × List Blk × Prop) :=
  match o with
  | .call c => match c.callee with
    | .builtin .unsafeString => match c.args.toList.map ev, c.argTypes.toList with
      | [.nilptr, .int .i64 n], [_, _] => if n = 0 then some (.str [], hp, True) else none
      | [.rptr n m i j, .int .i64 k], [pt, _] => match hp[n]? with
        | some (.rows e m' fl l) => match tyi P pt with
          | some I => match I.sh with
            | .ptr e' => if e' = e ∧ isU8' P e = true then some (.str (strOf (l.take k.toNat)), hp.set n (.rows e m' 3 l), 0 < k ∧ k.toNat ≤ l.length ∧ i = 0 ∧ j = 0 ∧ m = 1 ∧ m' = 1 ∧ l.take k.toNat = bytesA (strOf (l.take k.toNat))) else none
            | _ => none
          | none => none
        | _ => none
      | _, _ => none
    | .builtin .copy => match c.args.toList.map ev, c.argTypes.toList with
      | [a, b], [t, _] => match tyi P t with
        | some I => match I.sh with
          | .slice _ m _ _ => copyA hp m a b
          | _ => none
        | none => none
      | _, _ => none
    | _ => none
  | .store t a x => match tyi P t with
    | some I => match cellsA (ev x) with
      | some vs => match ev a with
        | .ptr n 0 => match hp[n]? with
          | some (.rows e m fl l) => if vs.all nn = true then some (.any, hp.set n (.rows e m fl (chunks m l.length vs)), vs.length = I.size ∧ vs.length = l.length * m ∧ fl ≠ 3) else none
          | _ => none
        | _ => none
      | none => none
    | none => none
  | _ => none

section
variable {P : Program} {ρ : Operand → Value} {o : Oper} {wc : World} {ok0 : Nat → Prop} {fp : List Nat} {ι : Names'} {h h' : List Blk} {w w' : World} {x : AV} {v : Value}

theorem run_loadBytes {b : Nat} : ∀ (s : List UInt8) (o : Nat) (acc : ByteArray), (∀ (j : Nat) (c : UInt8), s[j]? = some c → w.cell? ⟨b, o + j, none⟩ = some (.int .u8 c.toNat)) →
    (loadBytes ⟨b, o, none⟩ acc s.length).run P w = .ok (acc ++ ⟨s.toArray⟩) w
  | [], o, acc, _ => by simp [loadBytes]; apply ByteArray.ext; simp
  | c :: s, o, acc, h => by
    have h0 := h 0 c (by simp)
    have ih := run_loadBytes s (o + 1) (acc.push c) (fun j d hd => by rw [show o + 1 + j = o + (j + 1) by omega]; exact h (j + 1) d (by simpa using hd))
    simp only [Nat.add_zero] at h0
    simp only [List.length_cons, loadBytes, Sem.run_bind, run_load, h0, Result.andThen_ok, add_eq]
    simp only [Int.toNat_natCast, Nat.toUInt8_eq, UInt8.ofNat_toNat, ih]
    congr 1
    apply ByteArray.ext
    simp [ByteArray.data_append, ByteArray.push]

theorem depth_pos (P : Program) : ∃ d, P.depth = d + 1 := ⟨_, rfl⟩

theorem lies_u8 {e : TypeId} (hu : isU8' P e = true) {c o n : Nat} (hc : o + n ≤ c) : liesAt P P.depth e (c / P.cellsOf e) o e n = true := by
  obtain ⟨K, hK, hs, hsz⟩ := isU8'_spec hu
  obtain ⟨i, z, hi, _, hs', _⟩ := tyi_info hK
  obtain ⟨d, hd⟩ := depth_pos P
  have h1 : P.cellsOf e = 1 := by simp [Program.cellsOf, hi, hs', hsz]
  rw [hd]
  simp only [liesAt, rowAt, hd, h1, sameLayout, Nat.div_one]
  simp [hc, Nat.mod_one]

theorem does_copy {d s : Operand} {t u : TypeId} {I : TyI} {e m by' : Nat} {zr : List AV} {xa xb : AV} {p : Prop} (ho : o.op = .call { callee := .builtin .copy, args := #[d, s], argTypes := #[t, u] }) (hI : tyi P t = some I) (hs : I.sh = .slice e m by' zr) (hr : Rel wc ok0 fp ι h w)
    (ha : Den w (okN wc ok0 ι h) ι xa (ρ d)) (hb : Den w (okN wc ok0 ι h) ι xb (ρ s)) (hl : copyA h m xa xb = some (x, h', p)) (hp : p) : Does P ρ o wc ok0 fp ι h w x h' := by
  obtain ⟨hty, ie, ze, hie, _, hsz0, _⟩ := tyi_slice hI hs
  have hsize : (Go.sizeOf e).run P w = .ok m w := by rw [run_sizeOf _ hie]; simp [Program.cellsOf, hie, hsz0]
  cases xa <;> simp only [copyA, reduceCtorEq] at hl
  rename_i n m1 oo len
  cases hn : h[n]? with
  | none => rw [hn] at hl; simp at hl
  | some blk =>
    rw [hn] at hl
    cases blk <;> simp only [reduceCtorEq] at hl
    rename_i e1 m2 fl l
    split at hl
    · rename_i ls q hsrc
      simp only [Option.some.injEq, Prod.mk.injEq] at hl
      obtain ⟨rfl, rfl, rfl⟩ := hl
      obtain ⟨hq, pa, pb, p4, p5⟩ := hp
      subst pa
      have pb' := pb.symm
      subst pb'
      obtain ⟨bb, c, ad, hi, hle, had, ha⟩ := ha
      obtain ⟨cells, fz, us, hbb, hf, hpl, hsz, hmx, htake, hd, hrows, hones⟩ := hr.get hn rfl hi
      have hfl := flatten_len hrows
      have hul := denL_length hd
      have hcap : us.length ≤ cells.size := by
        have := congrArg List.length htake
        simp only [List.length_take, Array.length_toList] at this; omega
      obtain ⟨k, hk⟩ : ∃ k, k = min ls.length len := ⟨_, rfl⟩
      -- the source's cells
      have src : ∃ vs : List Value, (Builtin.lenOf (ρ s)).run P w = .ok ls.length w ∧ (Builtin.firstCells m1 k (ρ s)).run P w = .ok vs.toArray w ∧ DenL w (okN wc ok0 ι h) [] (ls.take k).flatten vs ∧ (∀ r ∈ ls, r.length = m1) ∧ ls.flatten.all one = true := by
        have hkl : k ≤ ls.length := by omega
        have gen : ∀ {y : AV}, srcA h m1 y = some (ls, q) → Den w (okN wc ok0 ι h) ι y (ρ s) → ∃ vs : List Value, (Builtin.lenOf (ρ s)).run P w = .ok ls.length w ∧ (Builtin.firstCells m1 k (ρ s)).run P w = .ok vs.toArray w ∧ DenL w (okN wc ok0 ι h) [] (ls.take k).flatten vs ∧ (∀ r ∈ ls, r.length = m1) ∧ ls.flatten.all one = true := by
          intro y hsr hy
          obtain ⟨A, cap, news, hv, hnone, hnews, hcells, hrl, hone⟩ := src_spec hr hsr hq hy
          have hcut := flatten_cut (o := 0) (len := k) hrl (by omega)
          simp only [List.drop_zero, Nat.zero_mul] at hcut
          have hnl := denL_length hnews
          rw [flatten_len hrl] at hnl
          have hkm : k * m1 ≤ news.length := by rw [← hnl]; exact Nat.mul_le_mul_right _ hkl
          have hden : DenL w (okN wc ok0 ι h) [] (ls.take k).flatten (news.take (k * m1)) := by
            rw [hcut]
            refine denL_iff.2 ⟨by simp only [List.length_take, flatten_len hrl]; omega, fun j x hx => ?_⟩
            rw [List.getElem?_take] at hx
            split at hx
            · rename_i hj
              obtain ⟨u, hu, hdu⟩ := (denL_iff.1 hnews).2 _ _ hx
              exact ⟨u, by rw [List.getElem?_take, if_pos hj]; exact hu, hdu⟩
            · cases hx
          refine ⟨news.take (k * m1), by rw [hv]; simp [Builtin.lenOf], ?_, hden, hrl, hone⟩
          rw [hv]
          cases A with
          | none =>
            have := hnone rfl
            subst this
            have : news = [] := List.length_eq_zero_iff.1 (by simpa using hnl.symm)
            subst this
            simp [Builtin.firstCells]
          | some A =>
            simp only [Builtin.firstCells]
            have := run_loadCells_list (P := P) w A (news.take (k * m1)) (fun j u hu => by
              rw [List.getElem?_take] at hu
              split at hu
              · exact hcells A rfl j u hu
              · cases hu)
            rw [List.length_take, Nat.min_eq_left hkm] at this
            exact this
        unfold srcB at hsrc
        split at hsrc
        · rename_i t
          split at hsrc
          · rename_i hm1
            subst hm1
            simp only [Option.some.injEq, Prod.mk.injEq] at hsrc
            obtain ⟨rfl, _⟩ := hsrc
            simp only [Den] at hb
            refine ⟨(t.take k).map fun b => .int .u8 b.toNat, by rw [hb]; simp [Builtin.lenOf, ba_size], ?_, ?_, bytesA_row t, bytesA_one t⟩
            · rw [hb]
              simp only [Builtin.firstCells, Sem.run_pure]
              congr 1
              apply Array.ext'
              simp [ByteArray.extract, ByteArray.copySlice]
            · have : (List.take k (t.map fun b => [AV.int .u8 (b.toNat : Int)])) = bytesA (t.take k) := by simp [bytesA, List.map_take]
              rw [this]
              exact den_bytes.2 rfl
          · cases hsrc
        · exact gen hsrc hb
      obtain ⟨vs, hlen, hfirst, hdv, hlr, hlo⟩ := src
      have hk1 : k ≤ ls.length := by omega
      have hk2 : k ≤ len := by omega
      have hvl : vs.length = k * m1 := by
        rw [← denL_length hdv, flatten_len (m := m1) (fun r hr => hlr r (List.mem_of_mem_take hr)), List.length_take, Nat.min_eq_left hk1]
      have hvone : ∀ v ∈ vs, v.oneCell' = true := by
        intro v hv
        obtain ⟨j, hj, rfl⟩ := List.getElem_of_mem hv
        have hj' : j < (ls.take k).flatten.length := by rw [denL_length hdv]; exact hj
        obtain ⟨u, hu, hdu⟩ := (denL_iff.1 hdv).2 j _ (List.getElem?_eq_getElem hj')
        rw [List.getElem?_eq_getElem hj] at hu
        simp only [Option.some.injEq] at hu
        subst hu
        refine (one_spec ?_ hdu).1
        have hmem : (ls.take k).flatten[j] ∈ ls.flatten := by
          have : (ls.take k).flatten[j] ∈ (ls.take k).flatten := List.getElem_mem hj'
          obtain ⟨r, hr1, hr2⟩ := List.mem_flatten.1 this
          exact List.mem_flatten.2 ⟨r, List.mem_of_mem_take hr1, hr2⟩
        exact (List.all_eq_true.1 hlo) _ hmem
      obtain ⟨l', hl'⟩ : ∃ l', l' = l.take oo ++ ls.take k ++ l.drop (oo + k) := ⟨_, rfl⟩
      have hl'len : l'.length = l.length := by rw [hl']; simp; omega
      have hrows' : ∀ r ∈ l', r.length = m1 := by
        intro r hr
        rw [hl'] at hr
        simp only [List.mem_append] at hr
        rcases hr with (hr | hr) | hr
        · exact hrows r (List.mem_of_mem_take hr)
        · exact hlr r (List.mem_of_mem_take hr)
        · exact hrows r (List.mem_of_mem_drop hr)
      have hones' : l'.flatten.all one = true := by
        rw [List.all_eq_true]
        intro y hy
        obtain ⟨r, hr1, hr2⟩ := List.mem_flatten.1 hy
        rw [hl'] at hr1
        simp only [List.mem_append] at hr1
        rcases hr1 with (hr1 | hr1) | hr1
        · exact (List.all_eq_true.1 hones) y (List.mem_flatten.2 ⟨r, List.mem_of_mem_take hr1, hr2⟩)
        · exact (List.all_eq_true.1 hlo) y (List.mem_flatten.2 ⟨r, List.mem_of_mem_take hr1, hr2⟩)
        · exact (List.all_eq_true.1 hones) y (List.mem_flatten.2 ⟨r, List.mem_of_mem_drop hr1, hr2⟩)
      have hstore : ∃ w', (storeCells ⟨bb, ad, none⟩ vs 0).run P w = .ok () w' ∧ w'.os = w.os ∧ w'.tape = w.tape ∧ w'.output = w.output ∧ w'.heap.size = w.heap.size ∧ (∀ q, q ≠ bb → w'.heap[q]? = w.heap[q]?) ∧
          ∃ cur', w'.heap[bb]? = some (.cells cur' e1 fz) ∧ cur'.size = cells.size ∧ ∀ j, cur'[j]? = if oo * m1 ≤ j ∧ j < oo * m1 + vs.length then vs[j - oo * m1]? else cells[j]? := by
        rcases Nat.eq_zero_or_pos vs.length with h0 | h0
        · have : vs = [] := List.length_eq_zero_iff.1 h0
          subst this
          exact ⟨w, by simp [storeCells], rfl, rfl, rfl, rfl, fun _ _ => rfl, cells, hbb, rfl, fun j => by rw [if_neg (by simp only [List.length_nil]; omega)]⟩
        · have hk0 : 0 < k := by
            rcases Nat.eq_zero_or_pos k with hz | hz
            · rw [hvl, hz] at h0; simp at h0
            · exact hz
          rw [had (by omega)]
          have hfit : oo * m1 + 0 + vs.length ≤ cells.size := by
            rw [hvl, hsz, Nat.add_zero, ← Nat.add_mul]; exact Nat.mul_le_mul_right _ (by omega)
          obtain ⟨w', g1, g2, g3, g4, g5, g6, cur', g7, g8, g9⟩ := run_storeCells_row (P := P) bb (oo * m1) e1 fz vs 0 cells w hbb (hf p4) hfit hvone
          exact ⟨w', g1, g2, g3, g4, g5, g6, cur', g7, g8, by simpa using g9⟩
      obtain ⟨w', hst, e1', e2', e3', e4', e5', cur', hb', hs', hg⟩ := hstore
      obtain ⟨hr', hk'⟩ := hr.turn (w' := w') (blk' := .rows e1 m1 fl l') hi hn rfl rfl e1' e2' e3' e4' e5' (fun hk => by
        refine ⟨cur', fz, cur'.toList.take us.length, hb', by rw [hs']; exact hf, ⟨hpl.1, fun e => by rw [hl'len]; exact hpl.2 e⟩, by rw [hs']; exact hsz, hmx, by simp, ?_, hrows', hones'⟩
        have hc : cur'.toList.length = cur'.size := Array.length_toList
        refine denL_iff.2 ⟨by rw [flatten_len hrows', hl'len, ← hfl, hul, List.length_take]; omega, fun j x hx => ?_⟩
        have hjl : j < us.length := by
          have := (List.getElem?_eq_some_iff.1 hx).1
          rw [flatten_len hrows', hl'len, ← hfl, hul] at this; exact this
        have fl1 : (l.take oo).flatten.length = oo * m1 := by rw [flatten_len (m := m1) (fun r hr => hrows r (List.mem_of_mem_take hr)), List.length_take, Nat.min_eq_left (by omega)]
        have fl2 : (ls.take k).flatten.length = k * m1 := by rw [flatten_len (m := m1) (fun r hr => hlr r (List.mem_of_mem_take hr)), List.length_take, Nat.min_eq_left (by omega)]
        have split3 : l.flatten = (l.take oo).flatten ++ (((l.drop oo).take k).flatten ++ (l.drop (oo + k)).flatten) := by
          rw [← List.flatten_append, ← List.flatten_append, ← List.drop_drop, List.take_append_drop, List.take_append_drop]
        have fl3 : ((l.drop oo).take k).flatten.length = k * m1 := by
          rw [flatten_len (m := m1) (fun r hr => hrows r (List.mem_of_mem_drop (List.mem_of_mem_take hr))), List.length_take, List.length_drop, Nat.min_eq_left (by omega)]
        rw [hl', List.flatten_append, List.flatten_append] at hx
        simp only [List.getElem?_take, if_pos hjl, Array.getElem?_toList, hg j, hvl]
        by_cases hin : oo * m1 ≤ j ∧ j < oo * m1 + k * m1
        · rw [if_pos hin]
          rw [List.append_assoc, List.getElem?_append_right (by omega), List.getElem?_append_left (by omega), fl1] at hx
          obtain ⟨u, hu, hdu⟩ := (denL_iff.1 hdv).2 _ _ hx
          exact ⟨u, hu, hdu.keep' hk (carried_refl _)⟩
        · rw [if_neg hin]
          have hold : l.flatten[j]? = some x := by
            rw [split3]
            rcases Nat.lt_or_ge j (oo * m1) with hlt | hge
            · rw [List.append_assoc, List.getElem?_append_left (by omega)] at hx
              rw [List.getElem?_append_left (by omega)]; exact hx
            · rw [List.append_assoc, List.getElem?_append_right (by omega), List.getElem?_append_right (by omega)] at hx
              rw [List.getElem?_append_right (by omega), List.getElem?_append_right (by omega)]
              rw [fl1, fl2] at hx
              rw [fl1, fl3]; exact hx
          obtain ⟨u, hu, hdu⟩ := (denL_iff.1 hd).2 _ _ hold
          refine ⟨u, ?_, hdu.keep' hk (carried_refl _)⟩
          rw [← htake, List.getElem?_take, if_pos hjl] at hu
          simpa using hu)
      refine ⟨.int .i64 (min ls.length len : Nat), w', ι, .inl ?_, by rw [← hk, ← hl']; exact hr', by rw [← hk, ← hl']; exact hk', carried_refl _, rfl⟩
      have hx : (Builtin.copy_ #[t, u] o.type #[ρ d, ρ s]).run P w = .ok (.int .i64 (min ls.length len : Nat)) w' := by
        rw [ha]
        have hkm : Nat.min ls.length len = k := hk.symm
        simp [Builtin.copy_, run_underlying hty, hlen, Result.andThen, hsize, hkm, hfirst, hst, goInt, ← hk]
      simp [execOp, ho, resolve, invoke, builtin, hx]
    · cases hl

theorem does_storeArr {t : TypeId} {I : TyI} {a y : Operand} {ya : AV} {vs : List AV} {n e m fl : Nat} {l : List (List AV)} (ho : o.op = .store t a y) (hI : tyi P t = some I) (hr : Rel wc ok0 fp ι h w)
    (ha : Den w (okN wc ok0 ι h) ι (.ptr n 0) (ρ a)) (hy : Den w (okN wc ok0 ι h) ι ya (ρ y)) (hvs : cellsA ya = some vs) (hn : h[n]? = some (.rows e m fl l)) (hnn : vs.all nn = true)
    (p1 : vs.length = I.size) (p2 : vs.length = l.length * m) (p3 : fl ≠ 3) : Does P ρ o wc ok0 fp ι h w .any (h.set n (.rows e m fl (chunks m l.length vs))) := by
  obtain ⟨d1, d2, d3⟩ := cellsA_spec hvs hy
  have hlen := denL_length d1
  obtain ⟨b, c, hi, hpt⟩ := ha
  obtain ⟨cells, fz, us, hb, hf, hpl, hsz, hmx, htake, hd, hrows, hones⟩ := hr.get hn rfl hi
  have hfl := flatten_len hrows
  have hul := denL_length hd
  have hcap : us.length ≤ cells.size := by
    have := congrArg List.length htake
    simp only [List.length_take, Array.length_toList] at this; omega
  obtain ⟨g1, g2⟩ := chunks_flatten (m := m) l.length vs p2
  obtain ⟨w', hw, e1, e2, e3, e4, e5, cur', hb', hs', hg⟩ := run_storeVar_cells hI hb (hf p3) (v := ρ y) (off := 0) (by omega) (by omega) d3
  obtain ⟨hr', hk'⟩ := hr.turn (w' := w') (blk' := .rows e m fl (chunks m l.length vs)) hi hn rfl rfl e1 e2 e3 e4 e5 (fun hk => by
    refine ⟨cur', fz, cur'.toList.take us.length, hb', by rw [hs']; exact hf, ⟨hpl.1, fun e => by rw [chunks_length]; exact hpl.2 e⟩, by rw [hs']; exact hsz, hmx, by simp, ?_, g2, by rw [g1]; exact d2⟩
    have hc : cur'.toList.length = cur'.size := Array.length_toList
    rw [g1]
    refine denL_iff.2 ⟨by rw [List.length_take]; omega, fun j x hx => ?_⟩
    have hjl := (List.getElem?_eq_some_iff.1 hx).1
    obtain ⟨u, hu, hdu⟩ := (denL_iff.1 d1).2 _ x hx
    have hgj := hg j
    rw [if_pos (by omega)] at hgj
    refine ⟨u, ?_, nn_den ((List.all_eq_true.1 hnn) x (List.mem_of_getElem? hx)) (hdu.keep' hk (carried_refl _))⟩
    rw [List.getElem?_take, if_pos (by omega)]
    simpa using hgj.trans (by simpa using hu))
  refine ⟨undef, w', ι, .inr ⟨?_, rfl⟩, hr', hk', carried_refl _, trivial⟩
  simp only [execOp, ho, hpt, Instr.storeAt, Instr.sureAddr, Sem.run_bind, Sem.run_pure, Result.andThen_ok, hw]

theorem does_moreLoud (ev : Operand → AV) (hev : ∀ x, Den w (okN wc ok0 ι h) ι (ev x) (ρ x)) (hr : Rel wc ok0 fp ι h w) {p : Prop} (hl : moreLoud P ev h o.op = some (x, h', p)) (hp : p) : Does P ρ o wc ok0 fp ι h w x h' := by
  cases ho : o.op <;> rw [ho] at hl <;> unfold moreLoud at hl <;> try (cases hl; done)
  case store t a y =>
    simp only at hl
    split at hl
    · rename_i I hI
      split at hl
      · rename_i vs hvs
        split at hl
        · rename_i n he
          split at hl
          · rename_i e m fl l hn
            split at hl
            · rename_i hnn; cases hl
              exact does_storeArr ho hI hr (by rw [← he]; exact hev a) (hev y) hvs hn hnn hp.1 hp.2.1 hp.2.2
            · cases hl
          · cases hl
        · cases hl
      · cases hl
    · cases hl
  rename_i cl
  obtain ⟨callee, args, tys⟩ := cl
  simp only at hl
  split at hl
  · split at hl
    · rename_i n pt qt has htys
      split at hl
      · rename_i hn; cases hl; subst hn
        obtain ⟨a, b, rfl, h1, h2⟩ := map_two has
        have ha := hev a
        have hb := hev b
        rw [h1] at ha; rw [h2] at hb
        simp only [Den] at ha hb
        refine Does.quiet hr (v := .string .empty) ?_ rfl
        have htys' : tys = #[pt, qt] := by rw [← Array.toList_inj]; exact htys
        subst htys'
        have hx : (Builtin.unsafeString_ #[pt, qt] o.type #[.pointer none, .int .i64 0]).run P w = .ok (.string .empty) w := rfl
        simp [execOp, ho, resolve, invoke, builtin, ha, hb, hx]
      · cases hl
    · rename_i n m i j k pt y has htys
      split at hl
      · rename_i e m' fl l hn
        split at hl
        · rename_i I hI
          split at hl
          · rename_i e' hs
            split at hl
            · rename_i hc
              obtain ⟨rfl, hu8⟩ := hc
              cases hl
              obtain ⟨p1, p2, rfl, rfl, rfl, rfl, p7⟩ := hp
              obtain ⟨a, b, rfl, h1, h2⟩ := map_two has
              have htys' : tys = #[pt, y] := by rw [← Array.toList_inj]; exact htys
              subst htys'
              have ha := hev a
              have hb := hev b
              rw [h1] at ha; rw [h2] at hb
              obtain ⟨bb, c, hi, ha⟩ := ha
              simp only [Den] at hb
              obtain ⟨cells, fz, us, hbb, hf, hpl, hsz, hmx, htake, hd, hrows, hones⟩ := hr.get hn rfl hi
              have hfl := flatten_len hrows
              have hul := denL_length hd
              have hcap : us.length ≤ cells.size := by
                have := congrArg List.length htake
                simp only [List.length_take, Array.length_toList] at this; omega
              have hcells : ∀ (j : Nat) (u : Value), us[j]? = some u → cells[j]? = some u := by
                intro j u hu
                rw [← htake, List.getElem?_take] at hu
                split at hu
                · simpa using hu
                · cases hu
              -- the bytes
              obtain ⟨s, hsd⟩ : ∃ s, s = strOf (l.take k.toNat) := ⟨_, rfl⟩
              have hsl : s.length = k.toNat := by rw [hsd]; simp [strOf]; omega
              have hread : ∀ (j : Nat) (c : UInt8), s[j]? = some c → w.cell? ⟨bb, 0 + j, none⟩ = some (.int .u8 c.toNat) := by
                intro j c hj
                have hjl : j < k.toNat := by rw [← hsl]; exact (List.getElem?_eq_some_iff.1 hj).1
                have hrow : l[j]? = some [.int .u8 (c.toNat : Int)] := by
                  have : (l.take k.toNat)[j]? = some [.int .u8 (c.toNat : Int)] := by
                    rw [p7, ← hsd]; simp [bytesA, hj]
                  rw [List.getElem?_take, if_pos hjl] at this; exact this
                have hfj : l.flatten[j]? = some (.int .u8 (c.toNat : Int)) := by
                  have := flatten_get hrows hrow (show 0 < 1 by omega)
                  simpa using this
                obtain ⟨u, hu, hdu⟩ := (denL_iff.1 hd).2 _ _ hfj
                simp only [Den] at hdu
                subst hdu
                have := hcells _ _ hu
                simp [World.cell?, hbb, this]
              have hld := run_loadBytes (P := P) (w := w) (b := bb) s 0 .empty hread
              rw [hsl] at hld
              have hlies : liesAt P P.depth e' (cells.size / P.cellsOf e') 0 e' k.toNat = true := lies_u8 hu8 (by omega)
              have hk0 : ¬ (k = 0) := by omega
              have hk1 : ¬ (k < 0) := by omega
              have hkn : ¬ (k.toNat = 0) := by omega
              have hkm : ¬ (IntKind.i64.max < k) := by
                have : (k.toNat : Int) = k := Int.toNat_of_nonneg (by omega)
                have hmm : (maxLen : Int) ≤ IntKind.i64.max := by decide
                have h3 : l.length ≤ c := by omega
                omega
              obtain ⟨w', hw'⟩ : ∃ w', w' = w.freeze ⟨bb, 0 * 1 + 0, none⟩ k.toNat := ⟨_, rfl⟩
              have hwh : w'.heap[bb]? = some (.cells cells e' (if fz.1 == fz.2 then (0, 0 + k.toNat) else (min fz.1 0, max fz.2 (0 + k.toNat)))) := by
                rw [hw']; unfold World.freeze; rw [if_neg hkn]
                simp [Array.getElem?_modify, hbb]
              have hwo : ∀ q, q ≠ bb → w'.heap[q]? = w.heap[q]? := by
                intro q hq
                rw [hw']; unfold World.freeze; rw [if_neg hkn]
                simp only [Array.getElem?_modify]; rw [if_neg (by simpa using fun e => hq e.symm)]
              have hws : w'.heap.size = w.heap.size ∧ w'.os = w.os ∧ w'.tape = w.tape ∧ w'.output = w.output := by
                rw [hw']; unfold World.freeze; rw [if_neg hkn]; simp
              obtain ⟨hr', hk'⟩ := hr.turn (w' := w') (blk' := .rows e' 1 3 l) hi hn rfl rfl hws.2.1 hws.2.2.1 hws.2.2.2 hws.1 hwo (fun hk => by
                refine ⟨cells, _, us, hwh, fun h3 => absurd rfl h3, ⟨fun e => by simp at e, fun e => by simp at e⟩, hsz, hmx, htake, hd.keep' hk (carried_refl _), hrows, hones⟩)
              refine ⟨.string ⟨s.toArray⟩, w', ι, .inl ?_, hr', hk', carried_refl _, by rw [← hsd]; rfl⟩
              have hx : (Builtin.unsafeString_ #[pt, y] o.type #[.pointer (some ⟨bb, 0 * 1 + 0, none⟩), .int .i64 k]).run P w = .ok (.string ⟨s.toArray⟩) w' := by
                have he : Builtin.unsafeString_ #[pt, y] o.type #[.pointer (some ⟨bb, 0 * 1 + 0, none⟩), .int .i64 k] = (do
                    let n ← asInt (.int .i64 k)
                    if n < 0 then runtimePanic (.error "unsafe.String: len out of range")
                    if n > IntKind.i64.max then unsupported (.unsafePointer "String: a length above the largest int")
                    if n = 0 then pure (.string .empty)
                    else if ← variablesAt ⟨bb, 0 * 1 + 0, none⟩ (← elemOf pt) n.toNat then do
                      let s ← loadBytes ⟨bb, 0 * 1 + 0, none⟩ .empty n.toNat
                      freeze ⟨bb, 0 * 1 + 0, none⟩ n.toNat
                      pure (.string s)
                    else unsupported (.unsafePointer "String: not so many bytes at ptr")) := rfl
                rw [he]
                have hkm' : ¬ (9223372036854775807 < k) := hkm
                simp [asInt, asIntOf, Result.andThen, hk0, hk1, hkm', variablesAt, shape_cells hbb, elemOf, run_underlying ((tyi_plain hI).2.2.2 _ hs), hlies, hld, hw']
              simp [execOp, ho, resolve, invoke, builtin, ha, hb, hx]
            · cases hl
          · cases hl
        · cases hl
      · cases hl
    · cases hl
  · split at hl
    · rename_i a' b' t u has htys
      split at hl
      · rename_i I hI
        split at hl
        · rename_i e m by' zr hs
          obtain ⟨a, b, rfl, h1, h2⟩ := map_two has
          have htys' : tys = #[t, u] := by rw [← Array.toList_inj]; exact htys
          subst htys'
          exact does_copy ho hI hs hr (by rw [← h1]; exact hev a) (by rw [← h2]; exact hev b) hl hp
        · cases hl
      · cases hl
    · cases hl
  · cases hl
end
end SX
