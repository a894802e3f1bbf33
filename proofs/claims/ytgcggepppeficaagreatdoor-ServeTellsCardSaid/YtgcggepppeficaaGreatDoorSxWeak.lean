/- SX: a state that says less; a loop's head. -/
import Derived.Test.YtgcggepppeficaaGreatDoorSxDraw3
set_option linter.all false
set_option linter.unusedVariables false
set_option linter.unnecessarySimpa false
set_option linter.unusedSimpArgs false
namespace SX
open Go

mutual
theorem Den.sc {w w' : World} {ok ok' : Nat → Prop} (hk : Keeps w ok w' ok') {m : Nat} {ι ι' : Names'} (hn : ∀ n b, n < m → ι[n]? = some b → ι'[n]? = some b) : ∀ (x : AV) {v : Value}, SX.sc m x = true → Den w ok ι x v → Den w' ok' ι' x v
  | .int _ _, _, _, h => h
  | .bool _, _, _, h => h
  | .str _, _, _, h => h
  | .ptr n o, _, hs, ⟨b, c, hb, e⟩ => ⟨b, c, hn _ _ (by simpa [SX.sc] using hs) hb, e⟩
  | .rptr n _ _ _, _, hs, ⟨b, c, hb, e⟩ => ⟨b, c, hn _ _ (by simpa [SX.sc] using hs) hb, e⟩
  | .dptr r o, _, _, ⟨b, o', e, hc⟩ => ⟨b, o', e, DenCells.keep hk r hc⟩
  | .xs m l, _, _, ⟨a, cap, e, hl, hr⟩ => ⟨a, cap, e, hl, DenRows.keep hk l hr⟩
  | .own n _ _ _, _, hs, ⟨b, c, ad, hb, h⟩ => ⟨b, c, ad, hn _ _ (by simpa [SX.sc] using hs) hb, h⟩
  | .nilsl, _, _, h => h
  | .zsl, _, _, h => h
  | .nilptr, _, _, h => h
  | .agg cs, _, hs, ⟨vs, e, h⟩ => ⟨vs, e, DenL.sc hk hn cs hs h⟩
  | .tup cs, _, hs, ⟨vs, e, h⟩ => ⟨vs, e, DenL.sc hk hn cs hs h⟩
  | .func _ fs cs, _, hs, ⟨vs, us, e, h, h'⟩ => by
    simp only [SX.sc, Bool.and_eq_true] at hs
    exact ⟨vs, us, e, DenL.sc hk hn fs hs.1 h, DenL.sc hk hn cs hs.2 h'⟩
  | .nilfunc, _, _, h => h
  | .iface _ x, _, hs, ⟨u, e, h⟩ => ⟨u, e, Den.sc hk hn x hs h⟩
  | .niliface, _, _, h => h
  | .gd _ x, _, hs, ⟨h, h'⟩ => ⟨fun hb => Den.sc hk hn x hs (h hb), h'⟩
  | .any, _, _, h => h
theorem DenL.sc {w w' : World} {ok ok' : Nat → Prop} (hk : Keeps w ok w' ok') {m : Nat} {ι ι' : Names'} (hn : ∀ n b, n < m → ι[n]? = some b → ι'[n]? = some b) : ∀ (cs : List AV) {vs : List Value}, scL m cs = true → DenL w ok ι cs vs → DenL w' ok' ι' cs vs
  | [], _, _, h => h
  | c :: cs, _, hs, ⟨v, vs', e, h, h'⟩ => by
    simp only [SX.scL, Bool.and_eq_true] at hs
    exact ⟨v, vs', e, Den.sc hk hn c hs.1 h, DenL.sc hk hn cs hs.2 h'⟩
end

/-- Slots that say what the state's slots say, or less. -/
def tmOk (tm : List (Nat × AV)) (m : Nat) : List (Nat × AV) → Prop
  | [] => True
  | (t, x) :: l => (Sub (gtm tm t) x ∧ sc m x = true) ∧ tmOk tm m l

theorem tmOk_get {tm : List (Nat × AV)} {m : Nat} : ∀ {l : List (Nat × AV)}, tmOk tm m l → ∀ t, gtm l t = .any ∨ (Sub (gtm tm t) (gtm l t) ∧ sc m (gtm l t) = true)
  | [], _, t => .inl rfl
  | (s, x) :: l, ⟨h, hs⟩, t => by
    simp only [gtm]
    split
    · rename_i e; subst e; exact .inr h
    · exact tmOk_get hs t

/-- Blocks that say what the state's say, or less; what stands behind the last is given up. -/
def hpOk (m : Nat) : List Blk → List Blk → Prop
  | [], _ => True
  | b' :: fs, b :: h => (SubB b b' ∧ (match b' with | .box T cs => scL m cs = true | _ => True)) ∧ hpOk m fs h
  | _ :: _, [] => False

theorem hpOk_get {m : Nat} : ∀ {fs h : List Blk}, hpOk m fs h → fs.length ≤ h.length ∧ ∀ (i : Nat) (b' : Blk), fs[i]? = some b' → ∃ b, h[i]? = some b ∧ SubB b b' ∧ (match b' with | .box T cs => scL m cs = true | _ => True)
  | [], h, _ => ⟨by simp, fun i b' hb => by simp at hb⟩
  | b' :: fs, [], hh => hh.elim
  | b' :: fs, b :: h, ⟨h1, h2⟩ => by
    obtain ⟨hl, hg⟩ := hpOk_get h2
    refine ⟨by simp [hl], fun i c hc => ?_⟩
    cases i with
    | zero => simp at hc; subst hc; exact ⟨b, by simp, h1.1, h1.2⟩
    | succ i => simpa using hg i c (by simpa using hc)

theorem SubB.live {b b' : Blk} (h : SubB b b') (hl : b'.live = true) : b.live = true := by
  cases h with
  | box _ => rfl
  | refl => exact hl
  | dead => cases hl

theorem weak {C : Ctx} {S S' : St} (hp : C.ι0.length ≤ S'.hp.length) (hsus : susOk S'.hp.length C.sus C.pin) (htm : tmOk S.tm S'.hp.length S'.tm) (hhp : hpOk S'.hp.length S'.hp S.hp) {ι : Names'} {a : Act} {w : World} (hh : Here C S ι a w) : ∃ ι', Here C S' ι' a w := by
  obtain ⟨hlen, hget⟩ := hpOk_get hhp
  have hιl := hh.rel.len
  refine ⟨ι.take S'.hp.length, ?_⟩
  have hnm : ∀ (n : Nat) (b : Nat × Nat), n < S'.hp.length → ι[n]? = some b → (ι.take S'.hp.length)[n]? = some b := fun n b hn hb => by rw [List.getElem?_take, if_pos hn]; exact hb
  have hback : ∀ (n : Nat) (b : Nat × Nat), (ι.take S'.hp.length)[n]? = some b → ι[n]? = some b := fun n b hb => by
    rw [List.getElem?_take] at hb; split at hb
    · exact hb
    · cases hb
  have hk : Keeps w (okN C.wc C.ok0 ι S.hp) w (okN C.wc C.ok0 (ι.take S'.hp.length) S'.hp) := by
    intro b hb hlt
    refine ⟨rfl, hb.1, fun n c blk hn hl he => ?_⟩
    obtain ⟨b0, h1, h2, _⟩ := hget n blk hn
    exact hb.2 n c b0 h1 (h2.live hl) (hback _ _ he)
  refine ⟨⟨hh.rel.os, hh.rel.tape, hh.rel.output, hh.rel.size, hh.rel.frame, by rw [List.length_take]; omega, ?_, ?_⟩, fun t => ?_, hh.sz, hh.df, fun n b hb => ?_, fun s hs t => Den.sc hk hnm _ (susOk_tm hsus hs t) (hh.sus s hs t), fun p hp => let ⟨c, h⟩ := hh.pin p hp; ⟨c, hnm _ _ (susOk_pin hsus hp) h⟩⟩
  · intro n b c blk hn hb hl
    obtain ⟨b0, h1, h2, h3⟩ := hget n blk hb
    obtain ⟨a1, a2, a3⟩ := hh.rel.own n b c b0 (hback _ _ hn) h1 (h2.live hl)
    refine ⟨a1, a2, ?_⟩
    have a4 := h2.at a3
    cases blk with
    | dead => trivial
    | box T cs =>
      obtain ⟨us, fz, e1, e2, e3⟩ := a4
      exact ⟨us, fz, e1, e2, DenL.sc hk (fun n b hn hb => hnm n b hn hb) cs h3 e3⟩
    | rows e m fl l => exact BlkAt.keep hk (ι := ι) (carried_refl ι) rfl a4
    | obj o => exact a4
  · intro n n' b c c' blk blk' e1 e2 e3 e4 l1 l2
    obtain ⟨b0, h1, h2, _⟩ := hget n blk e3
    obtain ⟨b0', h1', h2', _⟩ := hget n' blk' e4
    exact hh.rel.inj _ _ _ _ _ _ _ (hback _ _ e1) (hback _ _ e2) h1 h1' (h2.live l1) (h2'.live l2)
  · rcases tmOk_get htm t with h1 | ⟨h1, h2⟩
    · rw [h1]; trivial
    · exact Den.sc hk (fun n b hn hb => hnm n b hn hb) _ h2 (h1 _ _ _ _ (hh.tm t))
  · have := hh.pre n b hb
    simp only [id] at this ⊢
    refine hnm n b ?_ this
    have := (List.getElem?_eq_some_iff.1 hb).1
    omega

/-- Slots that are not asked of any more are let go. -/
theorem weak_ex {C : Ctx} {S : St} {k : Kont} {c : Code} (S' : St) (hp : C.ι0.length ≤ S'.hp.length) (htm : tmOk S.tm S'.hp.length S'.tm) (hhp : hpOk S'.hp.length S'.hp S.hp) (h : AR C c k S') (hsus : susOk S'.hp.length C.sus C.pin := by simp [go_sem]) : AR C c k S := by
  intro ι a w hh
  obtain ⟨ι', hh'⟩ := weak hp hsus htm hhp hh
  exact h ι' a w hh'

/-- A loop, its rounds' states by a ghost. -/
theorem loop_w {C : Ctx} {S : St} {b : Kont} {l : List KI} {c : Code} {γ : Type} (I : γ → St) (μ : γ → Nat) (g0 : γ) (hp : C.ι0.length ≤ (I g0).hp.length) (htm : tmOk S.tm (I g0).hp.length (I g0).tm) (hhp : hpOk (I g0).hp.length (I g0).hp S.hp)
    (round : ∀ g, exC C (kloop C I μ g (kden C l b)) 400 c [] (I g)) (hsus : susOk (I g0).hp.length C.sus C.pin := by simp [go_sem]) : AR C (.loop c) (kden C l b) S :=
  loop_ex I μ g0 (fun _ _ _ hh => weak hp hsus htm hhp hh) round
theorem next_w {C : Ctx} {S : St} {k : Kont} {γ : Type} {I : γ → St} {μ : γ → Nat} {g : γ} (g' : γ) (hlt : μ g' < μ g) (hp : C.ι0.length ≤ (I g').hp.length) (htm : tmOk S.tm (I g').hp.length (I g').tm) (hhp : hpOk (I g').hp.length (I g').hp S.hp) (hsus : susOk (I g').hp.length C.sus C.pin := by simp [go_sem]) :
    AE C .normal (kloop C I μ g k) S := next_ex g' hlt (fun _ _ _ hh => weak hp hsus htm hhp hh)

theorem draw_ex {C : Ctx} {S : St} {b : Kont} {l : List KI} {id : Nat} {ops : Array Oper} (cl : List (Nat × CallR)) (hm : C.P.follows .mixedOrders = true)
    (h : ∀ (ops' : Array Oper) (okD : List (List Loc × List Loc) → Prop), (∀ acc, okDraw ops ops.size acc.reverse = true → okD acc) → drunD C ops' (dsts ops) (kden C l b) ops.size okD cl S.hp.length 0 (exE C b 400 .normal l) 0 ops.toList S.hp.length [] ⟨S.tm, S.hp⟩) : AR C (.region id ops true) (kden C l b) S :=
  AR_draw hm ops.size cl 0 (.inl rfl) (fun S hS => exE_sound _ _ _ _ hS) (drunD_drun _ _ _ _ _ (by simpa using h ops _ (fun _ h => h)))

/-- A region that draws its order, and makes M blocks; from operation J on each stands behind all else. -/
theorem draw_new {C : Ctx} {S : St} {b : Kont} {l : List KI} {id : Nat} {ops : Array Oper} (J M : Nat) (cl : List (Nat × CallR)) (hm : C.P.follows .mixedOrders = true) (hpre : drawPre C S)
    (h : ∀ (ops' : Array Oper) (okD : List (List Loc × List Loc) → Prop), (∀ acc, okDraw ops J acc.reverse = true → okD acc) → drunD C ops' (dsts ops) (kden C l b) J okD cl S.hp.length M (exE C b 400 .normal l) 0 ops.toList S.hp.length [] ⟨S.tm, S.hp ++ List.replicate M .dead⟩) : AR C (.region id ops true) (kden C l b) S :=
  AR_draw hm J cl M (.inr hpre) (fun S hS => exE_sound _ _ _ _ hS) (drunD_drun _ _ _ _ _ (h ops _ (fun _ h => h)))

/-- A call that is handed the own blocks σ. -/
theorem call_at {C : Ctx} {S : St} {b : Kont} {l : List KI} {dl : List (Option Tmp)} {o : Oper} {rest : List Oper} {a : Operand} {as : Array Operand} {tys : Array TypeId} {f : FuncId} {fs cs cargs : List AV} {fp fp' : List Blk} {r : AV} (σ : List Nat)
    (hA : ACall C.P f cargs fp r fp') (ho : o.op = .call { callee := .value a, args := as, argTypes := tys }) (hg : o.guard = none) (hf : S.ev a = .func (.func f) fs cs) (hdst : dstOk C.N o.dst = true)
    (hlen : fp.length = σ.length) (hge : σ.length ≤ fp'.length) (hnd : σ.Nodup) (hargs : AV.renL (inn σ S.hp.length) cargs = fs ++ as.toList.map S.ev ++ cs) (hfp : fpAt S.hp (inn σ S.hp.length) σ fp)
    (h : ∀ ops', runD C ops' dl (kden C l b) (exE C b 400 .normal l) rest ⟨putTm S.tm o.dst (r.ren (out σ S.hp.length)), patch σ S.hp.length S.hp fp'⟩) : ∀ ops', AOpsD C ops' dl (o :: rest) (kden C l b) S :=
  call_ex σ hA ho hg hf hdst hargs hlen (fpAt_get hfp) hnd hge h

/-- A guarded call that is handed no own block, and gives none. -/
theorem call_gd {C : Ctx} {S : St} {b : Kont} {l : List KI} {dl : List (Option Tmp)} {o : Oper} {rest : List Oper} {a : Operand} {as : Array Operand} {tys : Array TypeId} {f : FuncId} {fs cs : List AV} {r : AV} {pc : Bool} {g : Nat × Bool}
    (ho : o.op = .call { callee := .value a, args := as, argTypes := tys }) (hg : o.guard = some g) (hroad : roadD dl S.ev o = some pc) (hf : strip (S.ev a) = .func (.func f) fs cs) (hdst : dstOk C.N o.dst = true)
    (hA : pc = true → ACall C.P f (fs ++ as.toList.map (fun x => strip (S.ev x)) ++ cs) [] r [])
    (hargs : AV.renL (inn [] S.hp.length) (fs ++ as.toList.map (fun x => strip (S.ev x)) ++ cs) = fs ++ as.toList.map (fun x => strip (S.ev x)) ++ cs) (hneeds : needs pc S.ev o.op.operands.toList)
    (h : ∀ ops', runD C ops' dl (kden C l b) (exE C b 400 .normal l) rest ⟨putTm S.tm o.dst (.gd pc (r.ren (out [] S.hp.length))), S.hp⟩) : ∀ ops', AOpsD C ops' dl (o :: rest) (kden C l b) S := by
  intro ops' hdl ι ac w hh
  subst hdl
  rw [roadD_eq] at hroad
  have hw := wanted_road hh hroad
  have hrest := run_sound (fun S hS => exE_sound _ _ _ _ hS) _ _ (runD_run _ _ (h ops'))
  simp only [wpL]
  rw [hw]
  cases pc with
  | false =>
    rw [if_neg (by simp)]
    exact ⟨fun f _ => C.hF f, hrest _ _ _ (hh.undef ⟨fun e => (by cases e), fun _ => rfl⟩ hdst)⟩
  | true =>
    rw [if_pos rfl]
    have hmem : a ∈ o.op.operands.toList := by rw [ho]; simp [Op.operands, Call.operands]
    have hmems : ∀ x ∈ as.toList, x ∈ o.op.operands.toList := fun x hx => by rw [ho]; simp only [Op.operands, Call.operands]; simp; exact .inr (by simpa using hx)
    classical
    have hmap : as.toList.map (fun x => if x ∈ o.op.operands.toList then strip (S.ev x) else S.ev x) = as.toList.map (fun x => strip (S.ev x)) :=
      List.map_congr_left fun x hx => by rw [if_pos (hmems x hx)]
    refine step_call (fs := fs) (cs := cs) [] hh (fun x => if x ∈ o.op.operands.toList then strip (S.ev x) else S.ev x) (fun x => ?_) ho (by simp only [if_pos hmem, hf]) hdst (hA rfl) (by rw [hmap]; exact hargs) rfl (fun i n b h => by simp at h) List.nodup_nil (Nat.le_refl _) ?_
    · split
      · rename_i hx; exact strip_den (needs_all hneeds x hx) rfl (hh.ev x)
      · exact hh.ev x
    · intro v ι' w' h1 h2 h3 h4
      have hp : patch [] S.hp.length S.hp [] = S.hp := by simp [patch, setAll]
      rw [hp] at h1 h2 h4
      exact hrest _ _ _ (hh.put h1 h2 h3 ⟨fun _ => h4, fun e => by cases e⟩ hdst)

/-- A function's end, where nothing was handed over and no block is handed on. -/
def fin0A (P : Program) (S : St) (rs : List ResultVar) (r : AV) : Prop :=
  match resA P S rs with
  | some (xs, q) => q ∧ pubV S.hp [] 0 (tupA xs) ∧ Sub ((pubA S.hp [] (tupA xs)).ren (fun _ => 0)) r
  | none => False

theorem fin0 {C : Ctx} {S : St} {fn : Func} {r : AV} {e : Exit} {rs : Array ResultVar} (he : e = .ret ∨ e = .normal) (hp : C.ι0.length = 0) (hrs : fn.results = rs) (h : fin0A C.P S rs.toList r) (hdf : C.df = [] := by rfl) : AE C e (kfin C fn r []) S := by
  unfold fin0A at h
  split at h
  · rename_i xs q hres
    refine AE_fin he 0 [] hp (by rw [hrs]; exact hres) h.1 (.inl trivial) rfl (by simpa using h.2.1) ?_ trivial (by simp) hdf
    have : (List.range 0 ++ []).idxOf = fun _ : Nat => 0 := by funext n; simp
    rw [this]; simpa using h.2.2
  · exact h.elim

/-- A function's end: p blocks were handed over, those named by σ are handed on. -/
def finA (P : Program) (S : St) (rs : List ResultVar) (p : Nat) (σ : List Nat) (r : AV) (fp' : List Blk) : Prop :=
  match resA P S rs with
  | some (xs, q) => q ∧ (livesTo S.hp p ∨ keptAll (List.range p ++ σ) p 0 S.hp) ∧ σ.all (fun n => p ≤ n && n < S.hp.length) = true ∧ pubV S.hp (List.range p ++ σ) p (tupA xs) ∧ Sub ((pubA S.hp (List.range p ++ σ) (tupA xs)).ren (List.range p ++ σ).idxOf) r ∧
      finB S.hp (List.range p ++ σ) (List.range p ++ σ).idxOf p (List.range p ++ σ) fp' ∧ (List.range p ++ σ).Nodup
  | none => False

theorem fin_ex {C : Ctx} {S : St} {fn : Func} {r : AV} {fp' : List Blk} {e : Exit} {rs : Array ResultVar} (p : Nat) (σ : List Nat) (he : e = .ret ∨ e = .normal) (hp : C.ι0.length = p) (hrs : fn.results = rs) (h : finA C.P S rs.toList p σ r fp') (hdf : C.df = [] := by rfl) : AE C e (kfin C fn r fp') S := by
  unfold finA at h
  split at h
  · rename_i xs q hres
    obtain ⟨h1, h2, h3, h4, h5, h6, h7⟩ := h
    exact AE_fin he p σ hp (by rw [hrs]; exact hres) h1 h2 h3 h4 h5 h6 h7 hdf
  · exact h.elim

theorem ops_and {p : Prop} {q : Array Oper → Prop} : (∀ x : Array Oper, p ∧ q x) ↔ p ∧ ∀ x : Array Oper, q x := ⟨fun h => ⟨(h #[]).1, fun x => (h x).2⟩, fun h x => ⟨h.1, h.2 x⟩⟩
theorem ops_imp {p : Prop} {q : Array Oper → Prop} : (∀ x : Array Oper, p → q x) ↔ (p → ∀ x : Array Oper, q x) := ⟨fun h hp x => h x hp, fun h x hp => h hp x⟩

attribute [go_sem] ops_and ops_imp inn out finA cellsOfRows drawPre scH fr frL mntN mntN.frBs ltAll newA makeB buildB List.replicate_succ List.replicate_zero List.lookup_cons List.lookup_nil susOk fin0A drunD guardD opLocs nameLoc tchA guardLoc gdw CallR.post CallR.wr CallR.ro storeN fpAt quietG pureR sc scL tmOk hpOk setAll patch resA tupA pubA pubL pubV pubVL livesTo keptAll finB Blk.pub Blk.pubV Blk.ren AV.ren AV.renL Sub.refl SubB.refl Blk.live
end SX
