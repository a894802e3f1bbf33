/- SX: a drawn region's run in the text's order, and that it serves every order. -/
import Derived.Test.YtgcggepppeficaaGreatDoorSxDraw
set_option linter.all false
set_option linter.unusedVariables false
set_option linter.unnecessarySimpa false
set_option linter.unusedSimpArgs false
namespace SX
open Go

/-- What a call comes to: the blocks that it is handed, as the callee names them; what it gives. -/
structure CallR where
  σ : List Nat
  cargs : Option (List AV)
  fp : List Blk
  r : AV
  fp' : List Blk

/-- What a call leaves of the blocks that it is handed; none said: they stay as they are. -/
def CallR.post (q : CallR) : List Blk := match q.fp' with
  | [] => q.fp
  | b :: l => b :: l
def CallR.wr (q : CallR) : List Nat := match q.fp' with
  | [] => []
  | _ :: _ => q.σ
def CallR.ro (q : CallR) (N : Nat) : Prop := match q.fp' with
  | [] => q.fp.map (Blk.ren (inn q.σ N)) = q.fp.map (Blk.ren (out q.σ N))
  | _ :: _ => True

/-- A call that is handed no own block. -/
def pureR (r : AV) : CallR := ⟨[], none, [], r, []⟩

def opLocs : List Operand → List Loc
  | [] => []
  | .tmp t :: l => .t t :: opLocs l
  | _ :: l => opLocs l

theorem opLocs_mem {t : Nat} : ∀ {l : List Operand}, Operand.tmp t ∈ l → Loc.t t ∈ opLocs l
  | [], h => by cases h
  | a :: l, h => by
    rcases List.mem_cons.1 h with rfl | h
    · exact List.mem_cons_self
    · have := opLocs_mem h
      cases a <;> simp only [opLocs] <;> first | exact List.mem_cons_of_mem _ this | exact this

def nameLoc : AV → List Loc
  | .ptr n _ => [.b n]
  | .rptr n _ _ _ => [.b n]
  | .own n _ _ _ => [.b n]
  | .gd _ x => nameLoc x
  | _ => []

/-- The blocks that an operation looks at. -/
def tchA (ev : Operand → AV) : Op → List Loc
  | .load _ a => nameLoc (ev a)
  | .slice _ a _ _ _ => nameLoc (ev a)
  | .convert _ _ a => nameLoc (ev a)
  | _ => []

def guardLoc (ops : List Oper) (o : Oper) : List Loc :=
  match o.guard with
  | none => []
  | some (j, _) => match ops[j]? with
    | some oj => match oj.dst with
      | some t => [.t t]
      | none => []
    | none => []

def gdw (o : Oper) (pc : Bool) (x : AV) : AV :=
  match o.guard with
  | none => x
  | some _ => .gd pc x

/-- A store's block. -/
def storeN (hp : List Blk) (I : TyI) (a : AV) (vs : List AV) : Option (Nat × Blk × Prop) :=
  match a with
  | .ptr n o => match hp[n]? with
    | some (.box T cs) => some (n, .box T (splice cs o vs), vs.length = I.size ∧ o + I.size ≤ cs.length)
    | _ => none
  | .rptr n m i j => match hp[n]? with
    | some (.rows e m' pl l) => if vs.all nn = true then some (n, .rows e m' pl (l.set i.toNat (splice (l.getD i.toNat []) j vs)), vs.length = I.size ∧ j + I.size ≤ m ∧ m' = m ∧ i.toNat < l.length ∧ pl ≠ 3) else none
    | _ => none
  | _ => none

theorem storeN_A {hp : List Blk} {I : TyI} {a : AV} {vs : List AV} {n : Nat} {b : Blk} {p : Prop} (h : storeN hp I a vs = some (n, b, p)) : storeA hp I a vs = some (hp.set n b, p) := by
  cases a <;> simp only [storeN, reduceCtorEq] at h <;> simp only [storeA]
  case ptr m o =>
    split at h
    · rename_i cs hc; simp only [Option.some.injEq, Prod.mk.injEq] at h; obtain ⟨rfl, rfl, rfl⟩ := h; simp only [hc]
    · cases h
  case rptr m q i j =>
    split at h
    · rename_i e m' pl l hc
      split at h
      · rename_i hn; simp only [Option.some.injEq, Prod.mk.injEq] at h; obtain ⟨rfl, rfl, rfl⟩ := h; simp only [hc, if_pos hn]
      · cases h
    · cases h

def fpAt (hp : List Blk) (ρ : Nat → Nat) : List Nat → List Blk → Prop
  | [], [] => True
  | n :: σ, b :: fs => hp[n]? = some (b.ren ρ) ∧ b.live = true ∧ fpAt hp ρ σ fs
  | _, _ => False

/-- The reserved names that a value, or blocks, name. -/
def mntN : Nat → Nat → AV → List Blk → List Nat
  | _, 0, _, _ => []
  | L, M + 1, x, bs => if (fr L x && frBs L bs) = true then mntN (L + 1) M x bs else L :: mntN (L + 1) M x bs
where frBs (n : Nat) : List Blk → Bool
  | [] => true
  | .box T cs :: bs => frL n cs && frBs n bs
  | _ :: bs => frBs n bs
def ltAll (nn : Nat) : List Nat → Bool
  | [] => true
  | n :: l => decide (n < nn) && ltAll nn l

def drun (C : Ctx) (ops : Array Oper) (k : Kont) (J : Nat) (cl : List (Nat × CallR)) (L M : Nat) (E : St → Prop) : Nat → List Oper → Nat → List (List Loc × List Loc) → St → Prop
  | i, [], _, acc, S => i = J ∧ okDraw ops J acc.reverse = true ∧ E S
  | i, o :: rest, nn, acc, S =>
    if i = J then okDraw ops J acc.reverse = true ∧ run C ops k E (o :: rest) S else
    match roadOf ops.toList S.ev o with
    | none => False
    | some pc => match o.op with
      | .call { callee := .value a, args := as, argTypes := _ } => match strip (S.ev a) with
        | .func (.func f) fs cs => match cl.lookup i with
          | some q => dstOk C.N o.dst = true ∧ (pc = true → ACall C.P f (q.cargs.getD (fs ++ as.toList.map (fun x => strip (S.ev x)) ++ cs)) q.fp q.r q.post) ∧
              (pc = true → AV.renL (inn q.σ S.hp.length) (q.cargs.getD (fs ++ as.toList.map (fun x => strip (S.ev x)) ++ cs)) = fs ++ as.toList.map (fun x => strip (S.ev x)) ++ cs) ∧
              needs pc S.ev o.op.operands.toList ∧ q.fp.length = q.σ.length ∧ q.post.length = q.σ.length ∧ q.ro S.hp.length ∧ q.σ.Nodup ∧ fpAt S.hp (inn q.σ S.hp.length) q.σ q.fp ∧ (q.σ = [] ∨ pc = true) ∧
              ltAll nn (mntN L M (q.r.ren (out q.σ S.hp.length)) (q.fp'.map (Blk.ren (out q.σ S.hp.length)))) = true ∧
              drun C ops k J cl L M E (i + 1) rest nn ((opLocs o.op.operands.toList ++ guardLoc ops.toList o ++ q.σ.map .b ++ (mntN L M (q.r.ren (out q.σ S.hp.length)) (q.fp'.map (Blk.ren (out q.σ S.hp.length)))).map .f, (match o.dst with | some d => [.t d] | none => []) ++ q.wr.map .b) :: acc)
                ⟨putTm S.tm o.dst (gdw o pc (q.r.ren (out q.σ S.hp.length))), setAll (out q.σ S.hp.length) q.σ q.fp' S.hp⟩
          | none => False
        | _ => False
      | .store t a y => match o.guard with
        | none => match tyi C.P t with
          | some I => match cellsA (S.ev y) with
            | some vs => match storeN S.hp I (S.ev a) vs with
              | some (n, b, p) => dstOk C.N o.dst = true ∧ p ∧ ltAll nn (mntN L M .any [b]) = true ∧
                  drun C ops k J cl L M E (i + 1) rest nn ((opLocs o.op.operands.toList ++ [.b n] ++ (mntN L M .any [b]).map .f, (match o.dst with | some d => [.t d] | none => []) ++ [.b n]) :: acc) ⟨putTm S.tm o.dst .any, S.hp.set n b⟩
              | none => False
            | none => False
          | none => False
        | some _ => False
      | op => if isCall op = true then False else match (match o.guard with | none => quietOp C.P S.ev S.hp op | some _ => quietG C.P pc S.ev S.hp op) with
        | some (x, p) => dstOk C.N o.dst = true ∧ p ∧ ltAll nn (mntN L M x []) = true ∧
            drun C ops k J cl L M E (i + 1) rest nn ((opLocs op.operands.toList ++ guardLoc ops.toList o ++ tchA S.ev op ++ (mntN L M x []).map .f, (match o.dst with | some d => [.t d] | none => [])) :: acc) ⟨putTm S.tm o.dst (gdw o pc x), S.hp⟩
        | none => match o.guard with
          | none => match newA C.P S.ev nn op with
            | some (x, b, p) => dstOk C.N o.dst = true ∧ p ∧ nn < L + M ∧ S.hp[nn]? = some .dead ∧ mntN.frBs nn [b] = true ∧ ltAll (nn + 1) (mntN L M x [b]) = true ∧
                drun C ops k J cl L M E (i + 1) rest (nn + 1) ((opLocs op.operands.toList ++ [.b nn] ++ (mntN L M x [b]).map .f, (match o.dst with | some d => [.t d] | none => []) ++ [.b nn] ++ [.f nn]) :: acc) ⟨putTm S.tm o.dst x, S.hp.set nn b⟩
            | none => False
          | some _ => False

/-- The slots that a guard asks of, by the slots that the operations write. -/
def guardD (dl : List (Option Tmp)) (o : Oper) : List Loc :=
  match o.guard with
  | none => []
  | some (j, _) => match dl[j]? with
    | some (some t) => [.t t]
    | _ => []

theorem guardD_eq (ops : Array Oper) (o : Oper) : guardD (dsts ops) o = guardLoc ops.toList o := by
  unfold guardD guardLoc dsts
  cases o.guard with
  | none => rfl
  | some jw =>
    obtain ⟨j, want⟩ := jw
    simp only [List.getElem?_map]
    cases ops.toList[j]? with
    | none => rfl
    | some oj => simp only [Option.map_some]; cases oj.dst <;> rfl

def drunD (C : Ctx) (ops : Array Oper) (dl : List (Option Tmp)) (k : Kont) (J : Nat) (okD : List (List Loc × List Loc) → Prop) (cl : List (Nat × CallR)) (L M : Nat) (E : St → Prop) : Nat → List Oper → Nat → List (List Loc × List Loc) → St → Prop
  | i, [], _, acc, S => i = J ∧ okD acc ∧ E S
  | i, o :: rest, nn, acc, S =>
    if i = J then okD acc ∧ runD C ops dl k E (o :: rest) S else
    match roadD dl S.ev o with
    | none => False
    | some pc => match o.op with
      | .call { callee := .value a, args := as, argTypes := _ } => match strip (S.ev a) with
        | .func (.func f) fs cs => match cl.lookup i with
          | some q => dstOk C.N o.dst = true ∧ (pc = true → ACall C.P f (q.cargs.getD (fs ++ as.toList.map (fun x => strip (S.ev x)) ++ cs)) q.fp q.r q.post) ∧
              (pc = true → AV.renL (inn q.σ S.hp.length) (q.cargs.getD (fs ++ as.toList.map (fun x => strip (S.ev x)) ++ cs)) = fs ++ as.toList.map (fun x => strip (S.ev x)) ++ cs) ∧
              needs pc S.ev o.op.operands.toList ∧ q.fp.length = q.σ.length ∧ q.post.length = q.σ.length ∧ q.ro S.hp.length ∧ q.σ.Nodup ∧ fpAt S.hp (inn q.σ S.hp.length) q.σ q.fp ∧ (q.σ = [] ∨ pc = true) ∧
              ltAll nn (mntN L M (q.r.ren (out q.σ S.hp.length)) (q.fp'.map (Blk.ren (out q.σ S.hp.length)))) = true ∧
              drunD C ops dl k J okD cl L M E (i + 1) rest nn ((opLocs o.op.operands.toList ++ guardD dl o ++ q.σ.map .b ++ (mntN L M (q.r.ren (out q.σ S.hp.length)) (q.fp'.map (Blk.ren (out q.σ S.hp.length)))).map .f, (match o.dst with | some d => [.t d] | none => []) ++ q.wr.map .b) :: acc)
                ⟨putTm S.tm o.dst (gdw o pc (q.r.ren (out q.σ S.hp.length))), setAll (out q.σ S.hp.length) q.σ q.fp' S.hp⟩
          | none => False
        | _ => False
      | .store t a y => match o.guard with
        | none => match tyi C.P t with
          | some I => match cellsA (S.ev y) with
            | some vs => match storeN S.hp I (S.ev a) vs with
              | some (n, b, p) => dstOk C.N o.dst = true ∧ p ∧ ltAll nn (mntN L M .any [b]) = true ∧
                  drunD C ops dl k J okD cl L M E (i + 1) rest nn ((opLocs o.op.operands.toList ++ [.b n] ++ (mntN L M .any [b]).map .f, (match o.dst with | some d => [.t d] | none => []) ++ [.b n]) :: acc) ⟨putTm S.tm o.dst .any, S.hp.set n b⟩
              | none => False
            | none => False
          | none => False
        | some _ => False
      | op => if isCall op = true then False else match (match o.guard with | none => quietOp C.P S.ev S.hp op | some _ => quietG C.P pc S.ev S.hp op) with
        | some (x, p) => dstOk C.N o.dst = true ∧ p ∧ ltAll nn (mntN L M x []) = true ∧
            drunD C ops dl k J okD cl L M E (i + 1) rest nn ((opLocs op.operands.toList ++ guardD dl o ++ tchA S.ev op ++ (mntN L M x []).map .f, (match o.dst with | some d => [.t d] | none => [])) :: acc) ⟨putTm S.tm o.dst (gdw o pc x), S.hp⟩
        | none => match o.guard with
          | none => match newA C.P S.ev nn op with
            | some (x, b, p) => dstOk C.N o.dst = true ∧ p ∧ nn < L + M ∧ S.hp[nn]? = some .dead ∧ mntN.frBs nn [b] = true ∧ ltAll (nn + 1) (mntN L M x [b]) = true ∧
                drunD C ops dl k J okD cl L M E (i + 1) rest (nn + 1) ((opLocs op.operands.toList ++ [.b nn] ++ (mntN L M x [b]).map .f, (match o.dst with | some d => [.t d] | none => []) ++ [.b nn] ++ [.f nn]) :: acc) ⟨putTm S.tm o.dst x, S.hp.set nn b⟩
            | none => False
          | some _ => False

theorem drunD_drun {C : Ctx} {ops : Array Oper} {k : Kont} {J : Nat} {cl : List (Nat × CallR)} {L M : Nat} {E : St → Prop} : ∀ (rest : List Oper) (i nn : Nat) (acc : List (List Loc × List Loc)) (S : St), drunD C ops (dsts ops) k J (fun acc => okDraw ops J acc.reverse = true) cl L M E i rest nn acc S → drun C ops k J cl L M E i rest nn acc S
  | [], i, nn, acc, S, h => h
  | o :: rest, i, nn, acc, S, h => by
    simp only [drunD, roadD_eq, guardD_eq] at h
    simp only [drun]
    split at h
    · rename_i hJ; rw [if_pos hJ]; exact ⟨h.1, runD_run _ _ h.2⟩
    rename_i hJ
    rw [if_neg hJ]
    split at h
    · exact h.elim
    · rename_i pc hroad
      try simp only
      split at h
      · try simp only
        split at h
        · try simp only
          split at h
          · try simp only
            obtain ⟨h1, h2, h3, h4, h5, h6, h7, h8, h9, h10, h10', h11⟩ := h
            exact ⟨h1, h2, h3, h4, h5, h6, h7, h8, h9, h10, h10', drunD_drun rest _ _ _ _ h11⟩
          · exact h.elim
        · exact h.elim
      · try simp only
        split at h
        · try simp only
          split at h
          · try simp only
            split at h
            · try simp only
              split at h
              · (try simp only); exact ⟨h.1, h.2.1, h.2.2.1, drunD_drun rest _ _ _ _ h.2.2.2⟩
              · exact h.elim
            · exact h.elim
          · exact h.elim
        · exact h.elim
      · rename_i op hnc hns
        split at h
        · exact h.elim
        · rename_i hc
          rw [if_neg hc]
          split at h
          · (try simp only); exact ⟨h.1, h.2.1, h.2.2.1, drunD_drun rest _ _ _ _ h.2.2.2⟩
          · split at h
            · split at h
              · (try simp only); exact ⟨h.1, h.2.1, h.2.2.1, h.2.2.2.1, h.2.2.2.2.1, h.2.2.2.2.2.1, drunD_drun rest _ _ _ _ h.2.2.2.2.2.2⟩
              · exact h.elim
            · exact h.elim

theorem St.ev_agree {S S' : St} {a : Operand} (h : ∀ t, a = .tmp t → S'.agree S (.t t)) : S'.ev a = S.ev a := by
  cases a with
  | tmp t => exact h t rfl
  | _ => rfl

theorem road_agree {S S' : St} {ops : List Oper} {o : Oper} (h : ∀ ℓ ∈ guardLoc ops o, S'.agree S ℓ) : roadOf ops S'.ev o = roadOf ops S.ev o := by
  unfold roadOf
  unfold guardLoc at h
  cases hg : o.guard with
  | none => rfl
  | some jw =>
    obtain ⟨j, want⟩ := jw
    rw [hg] at h
    simp only at h ⊢
    cases hj : ops[j]? with
    | none => rfl
    | some oj =>
      rw [hj] at h
      simp only at h ⊢
      cases hd : oj.dst with
      | none => rfl
      | some t =>
        rw [hd] at h
        have : S'.ev (.tmp t) = S.ev (.tmp t) := h (.t t) (by simp)
        simp only [this]

theorem nameLoc_cells {h h' : List Blk} {a : AV} (hb : ∀ n, Loc.b n ∈ nameLoc a → h'[n]? = h[n]?) : cellsAt h' a = cellsAt h a := by
  cases a <;> simp only [cellsAt]
  case ptr n o => rw [hb n (by simp [nameLoc])]
  case rptr n m i j => rw [hb n (by simp [nameLoc])]

/-- A quiet operation looks at no other blocks than it says. -/
theorem moreOp_local {P : Program} {ev : Operand → AV} {h h' : List Blk} {o : Op} (hb : ∀ n, Loc.b n ∈ tchA ev o → h'[n]? = h[n]?) : moreOp P ev h' o = moreOp P ev h o := by
  cases o <;> simp only [moreOp]
  case convert s d a =>
    cases he : ev a <;> simp only []
    rename_i n o
    rw [hb n (by simp [tchA, he, nameLoc])]

theorem quiet0_local {P : Program} {ev : Operand → AV} {h h' : List Blk} {o : Op} (hb : ∀ n, Loc.b n ∈ tchA ev o → h'[n]? = h[n]?) : quiet0 P ev h' o = quiet0 P ev h o := by
  cases o <;> simp only [quiet0]
  case load t a =>
    cases hI : tyi P t with
    | none => rfl
    | some I => simp only [loadA, nameLoc_cells (h := h) (h' := h') (a := ev a) hb]
  case convert s d a =>
    cases hJ : tyi P s with
    | none => rfl
    | some J =>
      cases hI : tyi P d with
      | none => rfl
      | some I =>
        have hsrc : ∀ {y : AV}, ev a = y → srcA h' 1 y = srcA h 1 y := by
          intro y hy
          cases y <;> simp only [srcA]
          case own n m o len => rw [hb n (by simp [tchA, hy, nameLoc])]
        simp only [convA]
        split <;> first
          | rfl
          | (rename_i he; split <;> first
              | rfl
              | (simp only [toStrA, hsrc he]))
  case slice t a lo hi mx =>
    cases mx with
    | some _ => rfl
    | none =>
      cases hI : tyi P t with
      | none => rfl
      | some I =>
        simp only [sliceA]
        cases hsh : I.sh <;> cases he : ev a <;> first | rfl | (rename_i n o; have hb' : h'[n]? = h[n]? := hb n (by simp [tchA, he, nameLoc]); cases o <;> first | rfl | simp only [hb'])

theorem quietOp_local {P : Program} {ev : Operand → AV} {h h' : List Blk} {o : Op} (hb : ∀ n, Loc.b n ∈ tchA ev o → h'[n]? = h[n]?) : quietOp P ev h' o = quietOp P ev h o := by
  unfold quietOp
  rw [quiet0_local hb, moreOp_local hb]

theorem tch_strip {ev : Operand → AV} {o : Op} {ℓ : Loc} (h : ℓ ∈ tchA (fun a => strip (ev a)) o) : ℓ ∈ tchA ev o := by
  have key : ∀ x : AV, ℓ ∈ nameLoc (strip x) → ℓ ∈ nameLoc x := by intro x hx; cases x <;> exact hx
  cases o <;> simp only [tchA] at h ⊢ <;> first | exact h | exact key _ h

theorem quiet_agree {P : Program} {S S' : St} {o : Op} (h : ∀ ℓ ∈ opLocs o.operands.toList ++ tchA S.ev o, S'.agree S ℓ) : quietOp P S'.ev S'.hp o = quietOp P S.ev S.hp o := by
  have h1 : quietOp P S'.ev S'.hp o = quietOp P S.ev S'.hp o := quietOp_congr fun x hx => St.ev_agree fun t ht => h _ (List.mem_append_left _ (opLocs_mem (ht ▸ hx)))
  rw [h1]
  exact quietOp_local fun n hn => h (.b n) (List.mem_append_right _ hn)

theorem needs_agree {S S' : St} {pc : Bool} : ∀ {l : List Operand}, (∀ ℓ ∈ opLocs l, S'.agree S ℓ) → needs pc S.ev l → needs pc S'.ev l
  | [], _, h => h
  | a :: l, hl, ⟨h1, h2⟩ => by
    have hsub : ∀ ℓ ∈ opLocs l, S'.agree S ℓ := fun ℓ hℓ => hl ℓ (by cases a <;> simp only [opLocs] <;> first | exact List.mem_cons_of_mem _ hℓ | exact hℓ)
    exact ⟨by rw [St.ev_agree (S := S) (fun t ht => hl _ (by subst ht; simp [opLocs]))]; exact h1, needs_agree hsub h2⟩

theorem quietG_agree {P : Program} {S S' : St} {pc : Bool} {o : Op} (h : ∀ ℓ ∈ opLocs o.operands.toList ++ tchA S.ev o, S'.agree S ℓ) {x : AV} {p : Prop} (hq : quietG P pc S.ev S.hp o = some (x, p)) (hp : p) : ∃ p', quietG P pc S'.ev S'.hp o = some (x, p') ∧ p' := by
  have hev : ∀ a ∈ o.operands.toList, S'.ev a = S.ev a := fun a ha => St.ev_agree fun t ht => h _ (List.mem_append_left _ (opLocs_mem (ht ▸ ha)))
  have gen : (match quietOp P (fun a => strip (S.ev a)) S.hp o with
      | some (x, p) => some (x, (pc = true → p) ∧ needs pc S.ev o.operands.toList)
      | none => none) = some (x, p) → ∃ p', (match quietOp P (fun a => strip (S'.ev a)) S'.hp o with
      | some (x, p) => some (x, (pc = true → p) ∧ needs pc S'.ev o.operands.toList)
      | none => none) = some (x, p') ∧ p' := by
    intro hq
    split at hq
    · rename_i y q hq'
      simp only [Option.some.injEq, Prod.mk.injEq] at hq
      obtain ⟨rfl, rfl⟩ := hq
      have e1 := quietOp_congr (P := P) (hp := S'.hp) (o := o) (ev := fun a => strip (S'.ev a)) (ev' := fun a => strip (S.ev a)) (fun x hx => by simp only [hev x hx])
      have e2 := quietOp_local (P := P) (o := o) (ev := fun a => strip (S.ev a)) (h := S.hp) (h' := S'.hp) (fun n hn => h (.b n) (List.mem_append_right _ (tch_strip hn)))
      rw [e1, e2, hq']
      exact ⟨_, rfl, hp.1, needs_agree (fun ℓ hℓ => h ℓ (List.mem_append_left _ hℓ)) hp.2⟩
    · cases hq
  cases o
  case pick c a b =>
    simp only [quietG] at hq ⊢
    rw [hev c (by simp [Op.operands]), hev a (by simp [Op.operands]), hev b (by simp [Op.operands])]
    exact ⟨_, hq, hp⟩
  all_goals exact gen hq

/-- A call at a state. -/
theorem step_call {C : Ctx} {S : St} {o : Oper} {a : Operand} {as : Array Operand} {tys : Array TypeId} {f : FuncId} {fs cs cargs : List AV} {fp fp' : List Blk} {r : AV} (σ : List Nat) {ι : Names'} {ac : Act} {w : World}
    (hh : Here C S ι ac w) (ev : Operand → AV) (hev : ∀ x, Den w (okN C.wc C.ok0 ι S.hp) ι (ev x) (ac.eval x)) (ho : o.op = .call { callee := .value a, args := as, argTypes := tys }) (hf : ev a = .func (.func f) fs cs) (hdst : dstOk C.N o.dst = true)
    (hA : ACall C.P f cargs fp r fp') (hargs : AV.renL (inn σ S.hp.length) cargs = fs ++ as.toList.map ev ++ cs) (hlen : fp.length = σ.length)
    (hfp : ∀ (i n : Nat) (b : Blk), σ[i]? = some n → fp[i]? = some b → S.hp[n]? = some (b.ren (inn σ S.hp.length)) ∧ b.live = true) (hnd : σ.Nodup) (hge : σ.length ≤ fp'.length) {Q : Exit → Act → World → Prop} {next : Act → World → Prop}
    (hx : ∀ v ι' w', Rel C.wc C.ok0 C.fp ι' (patch σ S.hp.length S.hp fp') w' → Keeps w (okN C.wc C.ok0 ι S.hp) w' (okN C.wc C.ok0 ι' (patch σ S.hp.length S.hp fp')) → Carried id ι ι' →
      Den w' (okN C.wc C.ok0 ι' (patch σ S.hp.length S.hp fp')) ι' (r.ren (out σ S.hp.length)) v → next (ac.put o.dst v) w') : o.wpIn C.F C.n C.P ac w next Q := by
  refine ⟨fun f _ => C.hF f, ?_⟩
  rw [Oper.semAt_eq _ _ _ (by intro c e; rw [ho] at e; cases e)]
  have hev' := hev a
  rw [hf] at hev'
  obtain ⟨vf, vc, he, hdf, hdc⟩ := hev'
  have hres : (execOp ac.eval o).run C.P w = .ok (.enter f (vf.toArray ++ as.map ac.eval ++ vc.toArray)) w := by
    simp only [execOp, ho, resolve, Deferred.ofValue, he, Sem.run_bind, Sem.run_pure, Result.andThen_ok, invoke, hA.1]
  rw [hres]
  simp only [Oper.uponIn]
  refine ⟨fun hd => by simp [Ctx.F, Fence.wide] at hd, ?_⟩
  have hvs : (vf.toArray ++ as.map ac.eval ++ vc.toArray) = (vf ++ as.toList.map ac.eval ++ vc).toArray := by
    apply Array.ext'
    simp
  have hcall := call_step σ hh.rel hA hargs (vs := vf ++ as.toList.map ac.eval ++ vc) (denL_append (denL_append hdf (denL_map ev hev _)) hdc) hlen hfp hnd hge
  rw [hvs]
  refine ((callsIn_wide (n := 0)).2 hcall).mono ?_
  rintro e w' ⟨v, ι', rfl, hr', hk', hc', hd'⟩
  exact hx v ι' w' hr' hk' hc' hd'

theorem fpAt_get {hp : List Blk} {ρ : Nat → Nat} : ∀ {σ : List Nat} {fp : List Blk}, fpAt hp ρ σ fp → ∀ (i n : Nat) (b : Blk), σ[i]? = some n → fp[i]? = some b → hp[n]? = some (b.ren ρ) ∧ b.live = true
  | [], [], _, i, n, b, h, _ => by simp at h
  | [], _ :: _, h, _, _, _, _, _ => h.elim
  | _ :: _, [], h, _, _, _, _, _ => h.elim
  | m :: σ, c :: fp, ⟨h1, h2, h3⟩, i, n, b, hi, hb => by
    cases i with
    | zero => simp at hi hb; subst hi; subst hb; exact ⟨h1, h2⟩
    | succ i => exact fpAt_get h3 i n b (by simpa using hi) (by simpa using hb)

/-- The blocks turned by a call. -/
def upsOf (ρ : Nat → Nat) : List Nat → List Blk → List (Nat × Blk)
  | n :: σ, b :: fs => (n, b.ren ρ) :: upsOf ρ σ fs
  | _, _ => []
theorem setUps_of (ρ : Nat → Nat) : ∀ (σ : List Nat) (fs h : List Blk), setUps (upsOf ρ σ fs) h = setAll ρ σ fs h
  | [], _, _ => by simp [upsOf, setUps, setAll]
  | _ :: _, [], _ => by simp [upsOf, setUps, setAll]
  | n :: σ, b :: fs, h => by simp only [upsOf, setUps, setAll]; exact setUps_of ρ σ fs _
theorem upsOf_names (ρ : Nat → Nat) : ∀ (σ : List Nat) (fs : List Blk), fs.length = σ.length → (upsOf ρ σ fs).map (fun u => Loc.b u.1) = σ.map .b
  | [], [], _ => rfl
  | [], _ :: _, h => by simp at h
  | _ :: _, [], h => by simp at h
  | n :: σ, b :: fs, h => by simp only [upsOf, List.map_cons]; rw [upsOf_names ρ σ fs (by simpa using h)]

/-- The records of a run. -/
structure Recs (C : Ctx) (ops : Array Oper) (S0 : St) (done : List DRec) (S : St) : Prop where
  st : foldD (fun _ => true) 0 done S0 = S
  steps : ∀ (i : Nat) (r : DRec), done[i]? = some r → DStep C ops i r (foldD (fun _ => true) 0 (done.take i) S0)

theorem foldD_snoc (D : Nat → Bool) : ∀ (l : List DRec) (i : Nat) (r : DRec) (S : St), foldD D i (l ++ [r]) S = if D (i + l.length) then r.app (foldD D i l S) else foldD D i l S
  | [], i, r, S => by simp [foldD]
  | a :: l, i, r, S => by
    simp only [List.cons_append, foldD]
    rw [foldD_snoc D l (i + 1) r]
    simp only [List.length_cons]
    rw [show i + 1 + l.length = i + (l.length + 1) by omega]

theorem Recs.snoc {C : Ctx} {ops : Array Oper} {S0 : St} {done : List DRec} {S : St} (h : Recs C ops S0 done S) {r : DRec} (hs : DStep C ops done.length r S) : Recs C ops S0 (done ++ [r]) (r.app S) := by
  refine ⟨by rw [foldD_snoc, h.st]; simp, fun i r' hr' => ?_⟩
  rcases Nat.lt_or_ge i done.length with hlt | hge
  · rw [List.getElem?_append_left hlt] at hr'
    rw [List.take_append_of_le_length (by omega)]
    exact h.steps i r' hr'
  · rw [List.getElem?_append_right hge] at hr'
    cases hd : i - done.length with
    | zero =>
      rw [hd] at hr'; simp at hr'; subst hr'
      have : i = done.length := by omega
      subst this
      rw [List.take_append_of_le_length (Nat.le_refl _), List.take_length, h.st]
      exact hs
    | succ k => rw [hd] at hr'; simp at hr'
end SX
