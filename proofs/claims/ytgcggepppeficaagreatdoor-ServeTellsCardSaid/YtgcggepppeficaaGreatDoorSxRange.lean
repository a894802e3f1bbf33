/- SX: a range over a function: its function's body and the loop's body are walked in place; the one stands by while the other runs. -/
import Derived.Test.YtgcggepppeficaaGreatDoorSxArith
import Derived.RangeFuncIn
set_option linter.all false
set_option linter.unusedVariables false
set_option linter.unnecessarySimpa false
set_option linter.unusedSimpArgs false
namespace SX
open Go

/-- The loop's record. -/
def recOf (fid : FuncId) (a0 : Act) (ps : Array Tmp) (assign body : Code) (D : Nat) (st : LoopState) (pend : Option Code) : Obj :=
  .loop { state := st, pending := pend, fn := fid, tmps := a0.tmps, params := ps, assign, body, defers := D }

/-- Where the ranged function's walk stands; where what follows the loop stands. -/
def Cit (C : Ctx) (S : St) (Nf : Nat) (a0 : Act) (D lb : Nat) : Ctx := { C with N := Nf, df := [], sus := ⟨a0, S.tm⟩ :: C.sus, pin := (S.hp.length, D) :: (S.hp.length + 1, lb) :: C.pin }
def Cend (C : Ctx) (S : St) (D : Nat) : Ctx := { C with df := { target := .collected D, args := #[] } :: C.df, pin := (S.hp.length, D) :: C.pin }

/-- What the ranged function's end is asked. -/
def kit (C : Ctx) (fn : Func) (k : Kont) (a0 : Act) (D lb : Nat) : Kont :=
  bodyPostM C.F C.n C.P fn (rangePost C.F C.n C.P lb k { a0 with defers := { target := .collected D, args := #[] } :: a0.defers })

theorem Here.den_sus {C : Ctx} {S : St} {ι : Names'} {a : Act} {w : World} {s : Sus} {l : List Sus} (hh : Here C S ι a w) (hs : C.sus = s :: l) (t : Nat) : Den w (okN C.wc C.ok0 ι S.hp) ι (gtm s.tm t) (s.act.tmps.getD t Go.undef) := hh.sus s (by rw [hs]; simp) t

theorem AR_range {C : Ctx} {S : St} {k : Kont} {g : Operand} {ps : Array Tmp} {assign body : Code} {f : FuncId} {fs cs : List AV} {fn : Func} {code : Code} {Nf : Nat} (hrd : C.rd = none) (hg : S.ev g = .func (.func f) fs cs)
    (hf : C.P.funcs[f]? = some fn) (hn : (fn.name == "runtime.NumGoroutine") = false) (hb : fn.body = some code) (hN : fn.ntmps = Nf) (hle : fs.length + 1 + cs.length ≤ Nf)
    (h : ∀ (fid : FuncId) (a0 : Act) (D lb : Nat), a0.tmps.size = C.N → a0.defers = C.df →
      AR (Cit C S Nf a0 D lb) code (kit C fn k a0 D lb) ⟨argTm 0 (fs ++ [.func (.yield lb) [] []] ++ cs), S.hp ++ [.obj (.deferred (some []))] ++ [.obj (recOf fid a0 ps assign body D .ready none)]⟩) :
    AR C (.rangeFunc g ps assign body) k S := by
  intro ι a w hh
  refine wpIn_rangeFunc fun fid _ => ?_
  have hev := hh.ev g
  rw [hg] at hev
  obtain ⟨vf, vc, he, hdf, hdc⟩ := hev
  have hround : C.F.round = none := hrd
  refine ⟨_, _, ((w.alloc (.deferred (some []))).alloc (recOf fid a ps assign body w.heap.size .ready none)), { target := .fn (.func f) vc.toArray, args := vf.toArray ++ #[.func (.yield (w.heap.size + 1)) #[] #[]] }, ((w.alloc (.deferred (some []))).alloc (recOf fid a ps assign body w.heap.size .ready none)), f, (vf ++ [Value.func (.yield (w.heap.size + 1)) #[] #[]] ++ vc).toArray, ((w.alloc (.deferred (some []))).alloc (recOf fid a ps assign body w.heap.size .ready none)), by rw [hround]; exact run_enterLoop_outer fid a.tmps ps assign body, ?_, fun _ _ => trivial, ?_, fun hd => by simp [Ctx.F, Fence.wide] at hd, ?_⟩
  · have hc : a.eval (.const (.func (.yield (w.heap.size + 1)) #[] #[])) = .func (.yield (w.heap.size + 1)) #[] #[] := rfl
    simp [resolve, Deferred.ofValue, he, hc]
  · have hx : ∀ (args : Array Value) (w' : World), (callFunc f args).run C.P w' = .ok (.enter f args) w' := by
      intro args w'
      simp only [callFunc, Sem.run_bind, run_program, Result.andThen_ok, hf, hn, Bool.false_eq_true, if_false, hb, Option.isNone_some, Sem.run_pure]
    simp [invoke, hx]
  · -- the function's own walk
    obtain ⟨hr1, hk1⟩ := hh.rel.fresh (w' := w.alloc (.deferred (some []))) (obj := .deferred (some [])) (c := 0) (blk := .obj (.deferred (some []))) rfl rfl rfl rfl (fun _ _ _ _ hb => hb)
    obtain ⟨hr2, hk2⟩ := hr1.fresh (w' := (w.alloc (.deferred (some []))).alloc (recOf fid a ps assign body w.heap.size .ready none)) (obj := recOf fid a ps assign body w.heap.size .ready none) (c := 0) (blk := .obj (recOf fid a ps assign body w.heap.size .ready none)) rfl rfl rfl rfl (fun _ _ _ _ hb => hb)
    have hsz1 : (w.alloc (.deferred (some []))).heap.size = w.heap.size + 1 := by simp
    rw [hsz1] at hr2 hk2
    have hc1 := carried_append ι [(w.heap.size, 0)]
    have hc2 := carried_append (ι ++ [(w.heap.size, 0)]) [(w.heap.size + 1, 0)]
    have hkeep : ∀ {x : AV} {v : Value}, Den w (okN C.wc C.ok0 ι S.hp) ι x v → Den ((w.alloc (.deferred (some []))).alloc (recOf fid a ps assign body w.heap.size .ready none)) (okN C.wc C.ok0 (ι ++ [(w.heap.size, 0)] ++ [(w.heap.size + 1, 0)]) (S.hp ++ [.obj (.deferred (some []))] ++ [.obj (recOf fid a ps assign body w.heap.size .ready none)]))
        (ι ++ [(w.heap.size, 0)] ++ [(w.heap.size + 1, 0)]) x v := fun hd => (hd.keep' hk1 hc1).keep' hk2 hc2
    have hkeepL : ∀ {x : List AV} {v : List Value}, DenL w (okN C.wc C.ok0 ι S.hp) ι x v → DenL ((w.alloc (.deferred (some []))).alloc (recOf fid a ps assign body w.heap.size .ready none)) (okN C.wc C.ok0 (ι ++ [(w.heap.size, 0)] ++ [(w.heap.size + 1, 0)]) (S.hp ++ [.obj (.deferred (some []))] ++ [.obj (recOf fid a ps assign body w.heap.size .ready none)]))
        (ι ++ [(w.heap.size, 0)] ++ [(w.heap.size + 1, 0)]) x v := fun hd => (hd.keep' hk1 hc1).keep' hk2 hc2
    have hιl : ι.length = S.hp.length := hh.rel.len
    have hargs : DenL ((w.alloc (.deferred (some []))).alloc (recOf fid a ps assign body w.heap.size .ready none)) (okN C.wc C.ok0 (ι ++ [(w.heap.size, 0)] ++ [(w.heap.size + 1, 0)]) (S.hp ++ [.obj (.deferred (some []))] ++ [.obj (recOf fid a ps assign body w.heap.size .ready none)]))
        (ι ++ [(w.heap.size, 0)] ++ [(w.heap.size + 1, 0)]) (fs ++ [AV.func (.yield (w.heap.size + 1)) [] []] ++ cs) (vf ++ [Value.func (.yield (w.heap.size + 1)) #[] #[]] ++ vc) :=
      denL_app (denL_app (hkeepL hdf) ⟨_, _, rfl, ⟨[], [], rfl, rfl, rfl⟩, rfl⟩) (hkeepL hdc)
    have hal := denL_length hargs
    refine callsIn_of_wp_marks (n := C.n) hf hb trivial (h fid a w.heap.size (w.heap.size + 1) hh.sz hh.df (ι ++ [(w.heap.size, 0)] ++ [(w.heap.size + 1, 0)]) _ _ ⟨hr2, fun t => ?_, ?_, rfl, fun n b hn' => hc2 _ _ (hc1 _ _ (hh.pre n b hn')), ?_, ?_⟩) hround
    · have := gtm_argTm (rest := Array.replicate (fn.ntmps - (vf ++ [Value.func (.yield (w.heap.size + 1)) #[] #[]] ++ vc).toArray.size) undef) 0 [] rfl hargs t
      simpa [Cit] using this
    · have h3 : (vf ++ [Value.func (.yield (w.heap.size + 1)) #[] #[]] ++ vc).length = fs.length + 1 + cs.length := by rw [← hal]; simp; omega
      simp only [Cit, Array.size_append, List.size_toArray, Array.size_replicate, h3, hN]
      omega
    · intro s hs t
      rcases List.mem_cons.1 hs with rfl | hs
      · exact hkeep (hh.tm t)
      · exact hkeep (hh.sus s hs t)
    · intro p hp
      rcases List.mem_cons.1 hp with rfl | hp
      · exact ⟨0, by simp [← hιl]⟩
      · rcases List.mem_cons.1 hp with rfl | hp
        · exact ⟨0, by simp [← hιl]⟩
        · obtain ⟨c, hpc⟩ := hh.pin p hp
          exact ⟨c, hc2 _ _ (hc1 _ _ hpc)⟩

/-- An own object turns. -/
theorem Here.putObj {C : Ctx} {S : St} {ι : Names'} {a : Act} {w : World} (hh : Here C S ι a w) {n l : Nat} {ob : Obj} (hpin : (n, l) ∈ C.pin) (hn : S.hp[n]? = some (.obj ob)) (ob' : Obj) (blk : Blk) (hb : blk = .obj ob' ∨ blk = .dead) :
    w.heap[l]? = some ob ∧ Rel C.wc C.ok0 C.fp ι (S.hp.set n blk) (w.putObj l ob') ∧ Keeps w (okN C.wc C.ok0 ι S.hp) (w.putObj l ob') (okN C.wc C.ok0 ι (S.hp.set n blk)) := by
  obtain ⟨c, hι⟩ := hh.pin _ hpin
  obtain ⟨hlt, hB, hat⟩ := hh.rel.own n l c _ hι hn rfl
  refine ⟨hat, ?_⟩
  obtain ⟨hr1, hk1⟩ := hh.rel.turn (w' := w.putObj l ob') (blk' := .obj ob') hι hn rfl rfl rfl rfl rfl (by simp [World.putObj]) (fun k hk => World.putObj_heap_other hk) (fun _ => World.putObj_heap_same hlt)
  rcases hb with rfl | rfl
  · exact ⟨hr1, hk1⟩
  · obtain ⟨hr2, hk2⟩ := hr1.drop n
    rw [List.set_set] at hr2 hk2
    exact ⟨hr2, fun b hb hlt' => by
      obtain ⟨e1, e2⟩ := hk1 b hb hlt'
      obtain ⟨e3, e4⟩ := hk2 b e2 (by simpa [World.putObj] using hlt')
      exact ⟨e3.trans e1, e4⟩⟩

/-- The ranged function's end: on behind the loop, or by the pending jump. -/
theorem AE_iter {C : Ctx} {S S1 : St} {fn : Func} {k : Kont} {a0 : Act} {D lb Nf : Nat} {e : Exit} {rl : Loop} {xs : List AV} {q : Prop} (he : e = .ret ∨ e = .normal) (hsz : a0.tmps.size = C.N) (hdf : a0.defers = C.df)
    (hres : resA C.P S1 fn.results.toList = some (xs, q)) (hq : q) (hL : S1.hp[S.hp.length + 1]? = some (.obj (.loop rl))) (hst : rl.state ≠ .busy)
    (hnone : rl.pending = none → AE (Cend C S D) .normal k ⟨S.tm, S1.hp.set (S.hp.length + 1) .dead⟩)
    (hsome : ∀ c, rl.pending = some c → AR (Cend C S D) c k ⟨S.tm, S1.hp.set (S.hp.length + 1) .dead⟩) : AE (Cit C S Nf a0 D lb) e (kit C fn k a0 D lb) S1 := by
  intro ι a w hh
  obtain ⟨hl, hr1, hk1⟩ := hh.putObj (n := S.hp.length + 1) (l := lb) (by simp [Cit]) hL (.loop { rl with state := .exhausted }) .dead (.inr rfl)
  obtain ⟨v, hv, hdv⟩ := run_results hh hres hq
  have hend := run_endLoop (P := C.P) hl hst
  have hh' : Here (Cend C S D) ⟨S.tm, S1.hp.set (S.hp.length + 1) .dead⟩ ι { a0 with defers := { target := .collected D, args := #[] } :: a0.defers } (w.putObj lb (.loop { rl with state := .exhausted })) := by
    refine ⟨hr1, fun t => (hh.sus ⟨a0, S.tm⟩ (by simp [Cit]) t).keep' hk1 (carried_refl _), hsz, by simp [Cend, hdf], hh.pre, fun s hs t => (hh.sus s (by simp only [Cit, Cend] at hs ⊢; exact List.mem_cons_of_mem _ hs) t).keep' hk1 (carried_refl _), fun p hp => hh.pin p ?_⟩
    simp only [Cit, Cend] at hp ⊢
    rcases List.mem_cons.1 hp with rfl | hp
    · exact List.mem_cons_self
    · exact List.mem_cons_of_mem _ (List.mem_cons_of_mem _ hp)
  have hpost : rangePost C.F C.n C.P lb k { a0 with defers := { target := .collected D, args := #[] } :: a0.defers } (.returned v) w := by
    refine ⟨_, _, hend, ?_⟩
    cases hp : rl.pending with
    | none => rw [hp] at hh'; exact hnone hp ι _ _ hh'
    | some c => rw [hp] at hh'; exact hsome c hp ι _ _ hh'
  have hd : a.defers = [] := hh.df
  have hlv : LeavesInM C.F C.n C.P fn a.tmps (rangePost C.F C.n C.P lb k { a0 with defers := { target := .collected D, args := #[] } :: a0.defers }) a.defers .returning w := by
    rw [hd]; exact ⟨v, hv, hpost⟩
  rcases he with rfl | rfl <;> exact hlv

/-! ### A round -/
def Cb (C : Ctx) (N0 lb : Nat) (ac : Act) (tm : List (Nat × AV)) : Ctx := { C with N := N0, rd := some lb, df := [], sus := ⟨ac, tm⟩ :: C.sus }

/-- What the round is to come to. -/
def Rrd (C : Ctx) (ops : Array Oper) (k : Kont) (rest : List Oper) (dst : Option Tmp) (ac : Act) : Ending → World → Prop
  | .returned v, w'' => wpL C.F C.n C.P ops k rest (ac.put dst v) w''
  | .panicked chain, w'' => k (.panic chain) ac w''
  | .outgrown, _ => LetsOut k

def krd (C : Ctx) (lb : Nat) (R : Ending → World → Prop) : Kont := roundPost C.P lb R
def kas (C : Ctx) (lb : Nat) (body : Code) (R : Ending → World → Prop) : Kont :=
  Exit.then (fun a₁ w₁ => ∃ w₂, (Instr.beginRound lb).run C.P w₁ = .ok () w₂ ∧ body.wpIn (C.F.inRound lb) C.n C.P (roundPost C.P lb R) a₁ w₂) (fun _ _ _ => False)

def zipTm : List Tmp → List AV → List (Nat × AV) → List (Nat × AV)
  | t :: ts, x :: xs, tm => zipTm ts xs ((t, x) :: tm)
  | _, _, tm => tm

theorem zip_den {w : World} {ok : Nat → Prop} {ι : Names'} {N : Nat} : ∀ {ts : List Tmp} {xs : List AV} {vs : List Value} {tm : List (Nat × AV)} {tmps : Array Value}, tmps.size = N → (∀ t ∈ ts, t < N) → ts.length = vs.length → DenL w ok ι xs vs → (∀ t, Den w ok ι (gtm tm t) (tmps.getD t undef)) →
    (∀ t, Den w ok ι (gtm (zipTm ts xs tm) t) (((ts.zip vs).foldl (fun tmps (t, a) => tmps.setIfInBounds t a) tmps).getD t undef)) ∧ ((ts.zip vs).foldl (fun tmps (t, a) => tmps.setIfInBounds t a) tmps).size = N
  | [], xs, vs, tm, tmps, hs, _, hl, hd, h => by
    have : vs = [] := List.eq_nil_of_length_eq_zero hl.symm
    subst this
    have : xs = [] := List.eq_nil_of_length_eq_zero (denL_length hd)
    subst this
    exact ⟨h, hs⟩
  | t :: ts, xs, [], tm, tmps, hs, _, hl, hd, h => by simp at hl
  | t :: ts, [], v :: vs, tm, tmps, hs, _, hl, hd, h => by have := denL_length hd; simp at this
  | t :: ts, x :: xs, v :: vs, tm, tmps, hs, ht, hl, ⟨v', vs', e, hx, hd⟩, h => by
    cases e
    simp only [List.zip_cons_cons, List.foldl_cons, zipTm]
    refine zip_den (by simp [hs]) (fun t' h' => ht t' (List.mem_cons_of_mem _ h')) (by simpa using hl) hd fun t' => ?_
    have htN := ht t List.mem_cons_self
    simp only [gtm]
    by_cases e : t = t'
    · subst e
      rw [if_pos rfl]
      have : (tmps.setIfInBounds t v).getD t undef = v := by rw [← hs] at htN; simp [Array.getD, htN]
      rw [this]; exact hx
    · rw [if_neg e]
      have : (tmps.setIfInBounds t v).getD t' undef = tmps.getD t' undef := by simp [Array.getElem?_setIfInBounds_ne e]
      rw [this]; exact h t'

/-- Yield is called: a round. -/
theorem AOps_yield {C : Ctx} {S1 : St} {ops : Array Oper} {o : Oper} {rest : List Oper} {k : Kont} {a : Operand} {as : Array Operand} {tys : Array TypeId} {lb nL D N0 : Nat} {fid : FuncId} {a0 : Act} {tm0 : List (Nat × AV)} {sus0 : List Sus} {ps : Array Tmp} {assign body : Code}
    (ho : o.op = .call { callee := .value a, args := as, argTypes := tys }) (hg : o.guard = none) (hf : S1.ev a = .func (.yield lb) [] []) (hrd : C.rd = none) (hsus : C.sus = ⟨a0, tm0⟩ :: sus0) (hpin : (nL, lb) ∈ C.pin)
    (hL : S1.hp[nL]? = some (.obj (recOf fid a0 ps assign body D .ready none))) (hps : as.size = ps.size) (hsz : a0.tmps.size = N0) (hpsN : ∀ t ∈ ps.toList, t < N0)
    (h : ∀ ac : Act, ac.tmps.size = C.N → ac.defers = C.df → AR (Cb C N0 lb ac S1.tm) assign (kas C lb body (Rrd C ops k rest o.dst ac)) ⟨zipTm ps.toList (as.toList.map S1.ev) tm0, S1.hp⟩) : AOps C ops (o :: rest) k S1 := by
  intro ι ac w hh
  have hw : Region.wanted o (yielded ops ac.tmps) = true := by simp [Region.wanted, hg]
  simp only [wpL]
  rw [if_pos hw]
  refine ⟨fun f _ => C.hF f, ?_⟩
  rw [Oper.semAt_eq _ _ _ (by intro c e; rw [ho] at e; cases e)]
  have hev := hh.ev a
  rw [hf] at hev
  obtain ⟨vf, vc, he, hdf, hdc⟩ := hev
  have e1 : vf = [] := hdf
  have e2 : vc = [] := hdc
  subst e1; subst e2
  obtain ⟨c, hι⟩ := hh.pin _ hpin
  obtain ⟨hlt, hB, hat⟩ := hh.rel.own nL lb c _ hι hL rfl
  have hy := run_yield (P := C.P) (w := w) (l := lb) (args := as.map ac.eval) hat (by simp [hps])
  have hres : (execOp ac.eval o).run C.P w = (Instr.yield lb (as.map ac.eval)).run C.P w := by
    simp [execOp, ho, resolve, Deferred.ofValue, he, invoke]
  rw [hres, hy]
  rw [Oper.uponIn_round]
  refine ⟨fun hd => by simp [Ctx.F, Fence.wide] at hd, roundIn_of_wpIn trivial ?_⟩
  have hz := zip_den (w := w) (ok := okN C.wc C.ok0 ι S1.hp) (ι := ι) (N := N0) (ts := ps.toList) (xs := as.toList.map S1.ev) (vs := as.toList.map ac.eval) (tm := tm0) (tmps := a0.tmps) hsz hpsN (by simp [hps]) (denL_map S1.ev hh.ev _) (fun t => hh.den_sus hsus t)
  have hfold : ((ps.zip (as.map ac.eval)).foldl (fun tmps (t, a) => tmps.setIfInBounds t a) a0.tmps) = ((ps.toList.zip (as.toList.map ac.eval)).foldl (fun tmps (t, a) => tmps.setIfInBounds t a) a0.tmps) := by
    rw [← Array.foldl_toList]; simp
  have hgo := h ac hh.sz hh.df ι { tmps := (ps.zip (as.map ac.eval)).foldl (fun tmps (t, a) => tmps.setIfInBounds t a) a0.tmps, defers := [] } w ⟨hh.rel, fun t => by rw [hfold]; exact hz.1 t, by rw [hfold]; exact hz.2, rfl, hh.pre, fun s hs t => by
    rcases List.mem_cons.1 hs with rfl | hs
    · exact hh.tm t
    · exact hh.sus s hs t, hh.pin⟩
  exact hgo

/-- The parameters are assigned: the round begins. -/
theorem AE_begin {C : Ctx} {S2 : St} {N0 lb nL D : Nat} {ac a0 : Act} {tm : List (Nat × AV)} {fid : FuncId} {ps : Array Tmp} {assign body : Code} {R : Ending → World → Prop} (hpin : (nL, lb) ∈ C.pin) (hL : S2.hp[nL]? = some (.obj (recOf fid a0 ps assign body D .ready none)))
    (h : AR (Cb C N0 lb ac tm) body (krd C lb R) ⟨S2.tm, S2.hp.set nL (.obj (recOf fid a0 ps assign body D .busy none))⟩) : AE (Cb C N0 lb ac tm) .normal (kas C lb body R) S2 := by
  intro ι a w hh
  obtain ⟨hl, hr1, hk1⟩ := hh.putObj (n := nL) (l := lb) hpin hL (recOf fid a0 ps assign body D .busy none) _ (.inl rfl)
  refine ⟨_, run_beginRound (P := C.P) hl rfl, ?_⟩
  exact h ι a _ ⟨hr1, fun t => (hh.tm t).keep' hk1 (carried_refl _), hh.sz, hh.df, hh.pre, fun s hs t => (hh.sus s hs t).keep' hk1 (carried_refl _), hh.pin⟩

theorem round_end {C : Ctx} {S1 S3 : St} {ops : Array Oper} {k : Kont} {rest : List Oper} {dst : Option Tmp} {N0 lb nL D : Nat} {ac a0 : Act} {fid : FuncId} {ps : Array Tmp} {assign body : Code} (jump : Option Code) (hpin : (nL, lb) ∈ C.pin) (hsz : ac.tmps.size = C.N) (hdf : ac.defers = C.df)
    (hL : S3.hp[nL]? = some (.obj (recOf fid a0 ps assign body D .busy none))) (hdst : dstOk C.N dst = true)
    (h : AOps C ops rest k ⟨putTm S1.tm dst (.bool jump.isNone), S3.hp.set nL (.obj (recOf fid a0 ps assign body D (if jump.isNone then .ready else .done) jump))⟩) {ι : Names'} {a : Act} {w : World} (hh : Here (Cb C N0 lb ac S1.tm) S3 ι a w) :
    ∃ v w', (Instr.endRound lb jump).run C.P w = .ok v w' ∧ Rrd C ops k rest dst ac (.returned v) w' := by
  obtain ⟨hl, hr1, hk1⟩ := hh.putObj (n := nL) (l := lb) hpin hL (recOf fid a0 ps assign body D (if jump.isNone then .ready else .done) jump) _ (.inl rfl)
  refine ⟨_, _, run_endRound (P := C.P) jump hl, ?_⟩
  have h0 : Here C ⟨S1.tm, S3.hp.set nL (.obj (recOf fid a0 ps assign body D (if jump.isNone then .ready else .done) jump))⟩ ι ac (w.putObj lb (recOf fid a0 ps assign body D (if jump.isNone then .ready else .done) jump)) :=
    ⟨hr1, fun t => (hh.den_sus (s := ⟨ac, S1.tm⟩) rfl t).keep' hk1 (carried_refl _), hsz, hdf, hh.pre, fun s hs t => (hh.sus s (List.mem_cons_of_mem _ hs) t).keep' hk1 (carried_refl _), hh.pin⟩
  exact h _ _ _ (h0.put h0.rel (Keeps.refl _ _) (carried_refl _) rfl hdst)

theorem AE_round {C : Ctx} {S1 S3 : St} {ops : Array Oper} {k : Kont} {rest : List Oper} {dst : Option Tmp} {N0 lb nL D : Nat} {ac a0 : Act} {fid : FuncId} {ps : Array Tmp} {assign body : Code} (hpin : (nL, lb) ∈ C.pin) (hsz : ac.tmps.size = C.N) (hdf : ac.defers = C.df)
    (hL : S3.hp[nL]? = some (.obj (recOf fid a0 ps assign body D .busy none))) (hdst : dstOk C.N dst = true)
    (h : AOps C ops rest k ⟨putTm S1.tm dst (.bool true), S3.hp.set nL (.obj (recOf fid a0 ps assign body D .ready none))⟩) : AE (Cb C N0 lb ac S1.tm) .normal (krd C lb (Rrd C ops k rest dst ac)) S3 := fun ι a w hh => round_end none hpin hsz hdf hL hdst h hh
theorem AE_round_ret {C : Ctx} {S1 S3 : St} {ops : Array Oper} {k : Kont} {rest : List Oper} {dst : Option Tmp} {N0 lb nL D : Nat} {ac a0 : Act} {fid : FuncId} {ps : Array Tmp} {assign body : Code} (hpin : (nL, lb) ∈ C.pin) (hsz : ac.tmps.size = C.N) (hdf : ac.defers = C.df)
    (hL : S3.hp[nL]? = some (.obj (recOf fid a0 ps assign body D .busy none))) (hdst : dstOk C.N dst = true)
    (h : AOps C ops rest k ⟨putTm S1.tm dst (.bool false), S3.hp.set nL (.obj (recOf fid a0 ps assign body D .done (some .ret)))⟩) : AE (Cb C N0 lb ac S1.tm) .ret (krd C lb (Rrd C ops k rest dst ac)) S3 := fun ι a w hh => round_end (some .ret) hpin hsz hdf hL hdst h hh
theorem AE_round_exit {C : Ctx} {S1 S3 : St} {ops : Array Oper} {k : Kont} {rest : List Oper} {dst : Option Tmp} {N0 lb nL D : Nat} {ac a0 : Act} {fid : FuncId} {ps : Array Tmp} {assign body : Code} {id : Nat} (hpin : (nL, lb) ∈ C.pin) (hsz : ac.tmps.size = C.N) (hdf : ac.defers = C.df)
    (hL : S3.hp[nL]? = some (.obj (recOf fid a0 ps assign body D .busy none))) (hdst : dstOk C.N dst = true)
    (h : AOps C ops rest k ⟨putTm S1.tm dst (.bool false), S3.hp.set nL (.obj (recOf fid a0 ps assign body D .done (some (.exit id))))⟩) : AE (Cb C N0 lb ac S1.tm) (.exit id) (krd C lb (Rrd C ops k rest dst ac)) S3 := fun ι a w hh => round_end (some (.exit id)) hpin hsz hdf hL hdst h hh
end SX

/- SX: a range over a function: the rules as the walk of whole code uses them. -/
namespace SX
open Go

theorem kden_end {C : Ctx} {S : St} {D : Nat} {b : Kont} : ∀ l : List KI, kden (Cend C S D) l b = kden C l b
  | [] => rfl
  | .seq y :: l => by simp only [kden, kden_end l]; rfl
  | .block id :: l => by simp only [kden, kden_end l]

theorem range_ex {C : Ctx} {S : St} {b : Kont} {l : List KI} {g : Operand} {ps : Array Tmp} {assign body : Code} {f : FuncId} {fs cs : List AV} {fn : Func} {code : Code} {Nf : Nat} (hf : C.P.funcs[f]? = some fn) (hn : (fn.name == "runtime.NumGoroutine") = false) (hb : fn.body = some code) (hN : fn.ntmps = Nf)
    (hrd : C.rd = none) (hg : S.ev g = .func (.func f) fs cs) (hle : fs.length + 1 + cs.length ≤ Nf)
    (h : ∀ (fid : FuncId) (a0 : Act) (D lb : Nat) (rc : LoopState → Option Code → Obj), a0.tmps.size = C.N → a0.defers = C.df → rc = recOf fid a0 ps assign body D →
      exC (Cit C S Nf a0 D lb) (kit C fn (kden C l b) a0 D lb) 400 code [] ⟨argTm 0 (fs ++ [.func (.yield lb) [] []] ++ cs), S.hp ++ [.obj (.deferred (some []))] ++ [.obj (rc .ready none)]⟩) :
    AR C (.rangeFunc g ps assign body) (kden C l b) S :=
  AR_range hrd hg hf hn hb hN hle fun fid a0 D lb h1 h2 => exC_sound _ _ _ _ (h fid a0 D lb _ h1 h2 rfl)

/-- The ranged function's end, no jump pending. -/
theorem iter_on {C : Ctx} {S S1 : St} {fn : Func} {b : Kont} {l : List KI} {a0 : Act} {D lb Nf : Nat} {e : Exit} {fid : FuncId} {ps : Array Tmp} {assign body : Code} {rc : LoopState → Option Code → Obj} (hrc : rc = recOf fid a0 ps assign body D) (he : e = .ret ∨ e = .normal) (hsz : a0.tmps.size = C.N) (hdf : a0.defers = C.df)
    (hres : fn.results = #[]) (hL : S1.hp[S.hp.length + 1]? = some (.obj (rc .ready none)))
    (h : exE (Cend C S D) b 400 .normal l ⟨S.tm, S1.hp.set (S.hp.length + 1) .dead⟩) : AE (Cit C S Nf a0 D lb) e (kit C fn (kden C l b) a0 D lb) S1 :=
  AE_iter he hsz hdf (by rw [hres]; rfl) trivial (by rw [hrc] at hL; exact hL) (by simp) (fun _ => by rw [← kden_end (S := S) (D := D)]; exact exE_sound _ _ _ _ h) (fun c hc => by simp at hc)

/-- The ranged function's end, a jump pending. -/
theorem iter_jump {C : Ctx} {S S1 : St} {fn : Func} {b : Kont} {l : List KI} {a0 : Act} {D lb Nf : Nat} {e : Exit} {fid : FuncId} {ps : Array Tmp} {assign body c : Code} {rc : LoopState → Option Code → Obj} (hrc : rc = recOf fid a0 ps assign body D) (he : e = .ret ∨ e = .normal) (hsz : a0.tmps.size = C.N) (hdf : a0.defers = C.df)
    (hres : fn.results = #[]) (hL : S1.hp[S.hp.length + 1]? = some (.obj (rc .done (some c))))
    (h : exC (Cend C S D) b 400 c l ⟨S.tm, S1.hp.set (S.hp.length + 1) .dead⟩) : AE (Cit C S Nf a0 D lb) e (kit C fn (kden C l b) a0 D lb) S1 :=
  AE_iter he hsz hdf (by rw [hres]; rfl) trivial (by rw [hrc] at hL; exact hL) (by simp) (fun hc => by simp at hc) (fun c' hc => by
    simp only [Option.some.injEq] at hc
    subst hc
    rw [← kden_end (S := S) (D := D)]; exact exC_sound _ _ _ _ h)

theorem yield_ex {C : Ctx} {S S1 : St} {Nf D lb : Nat} {b : Kont} {l : List KI} {dl : List (Option Tmp)} {o : Oper} {rest : List Oper} {a : Operand} {as : Array Operand} {tys : Array TypeId} {fid : FuncId} {a0 : Act} {ps : Array Tmp} {assign body : Code} {rc : LoopState → Option Code → Obj} (hrc : rc = recOf fid a0 ps assign body D)
    (hsz : a0.tmps.size = C.N) (ho : o.op = .call { callee := .value a, args := as, argTypes := tys }) (hg : o.guard = none) (hf : S1.ev a = .func (.yield lb) [] []) (hrd : C.rd = none)
    (hL : S1.hp[S.hp.length + 1]? = some (.obj (rc .ready none))) (hps : as.size = ps.size) (hpsN : ps.toList.all (fun t => decide (t < C.N)) = true)
    (h : ∀ (ac : Act) (ops' : Array Oper), ac.tmps.size = Nf → ac.defers = [] → dl = dsts ops' →
      exC (Cb (Cit C S Nf a0 D lb) C.N lb ac S1.tm) (kas (Cit C S Nf a0 D lb) lb body (Rrd (Cit C S Nf a0 D lb) ops' (kden (Cit C S Nf a0 D lb) l b) rest o.dst ac)) 400 assign [] ⟨zipTm ps.toList (as.toList.map S1.ev) S.tm, S1.hp⟩) :
    ∀ ops', AOpsD (Cit C S Nf a0 D lb) ops' dl (o :: rest) (kden (Cit C S Nf a0 D lb) l b) S1 :=
  fun ops' hdl => AOps_yield (C := Cit C S Nf a0 D lb) (nL := S.hp.length + 1) ho hg hf hrd rfl (by simp [Cit]) (by rw [hrc] at hL; exact hL) hps hsz (fun t ht => by simpa using List.all_eq_true.1 hpsN t ht) fun ac h1 h2 => exC_sound _ _ _ _ (h ac ops' h1 h2 hdl)

theorem begin_ex {C : Ctx} {S S2 : St} {Nf N0 lb D : Nat} {ac a0 : Act} {tm : List (Nat × AV)} {fid : FuncId} {ps : Array Tmp} {assign body : Code} {R : Ending → World → Prop} {rc : LoopState → Option Code → Obj} (hrc : rc = recOf fid a0 ps assign body D) (hL : S2.hp[S.hp.length + 1]? = some (.obj (rc .ready none)))
    (h : exC (Cb (Cit C S Nf a0 D lb) N0 lb ac tm) (krd (Cit C S Nf a0 D lb) lb R) 400 body [] ⟨S2.tm, S2.hp.set (S.hp.length + 1) (.obj (rc .busy none))⟩) : AE (Cb (Cit C S Nf a0 D lb) N0 lb ac tm) .normal (kas (Cit C S Nf a0 D lb) lb body R) S2 :=
  AE_begin (C := Cit C S Nf a0 D lb) (nL := S.hp.length + 1) (fid := fid) (a0 := a0) (ps := ps) (assign := assign) (D := D) (by simp [Cit]) (by subst hrc; exact hL) (by subst hrc; exact exC_sound _ _ _ _ h)

theorem runD_AOps {C : Ctx} {ops' : Array Oper} {dl : List (Option Tmp)} {b : Kont} {l : List KI} {rest : List Oper} {S : St} (hdl : dl = dsts ops') (h : runD C ops' dl (kden C l b) (exE C b 400 .normal l) rest S) : AOps C ops' rest (kden C l b) S := by
  subst hdl; exact run_sound (fun S hS => exE_sound _ _ _ _ hS) _ _ (runD_run _ _ h)

section
variable {C : Ctx} {S S3 : St} {tm1 : List (Nat × AV)} {ops' : Array Oper} {dl : List (Option Tmp)} {b : Kont} {l : List KI} {rest : List Oper} {dst : Option Tmp} {Nf N0 lb D : Nat} {ac a0 : Act} {fid : FuncId} {ps : Array Tmp} {assign body : Code} {rc : LoopState → Option Code → Obj}

theorem round_ex (hrc : rc = recOf fid a0 ps assign body D) (hsz : ac.tmps.size = Nf) (hdf : ac.defers = []) (hdl : dl = dsts ops') (hL : S3.hp[S.hp.length + 1]? = some (.obj (rc .busy none))) (hdst : dstOk Nf dst = true)
    (h : runD (Cit C S Nf a0 D lb) ops' dl (kden (Cit C S Nf a0 D lb) l b) (exE (Cit C S Nf a0 D lb) b 400 .normal l) rest ⟨putTm tm1 dst (.bool true), S3.hp.set (S.hp.length + 1) (.obj (rc .ready none))⟩) :
    AE (Cb (Cit C S Nf a0 D lb) N0 lb ac tm1) .normal (kden (Cb (Cit C S Nf a0 D lb) N0 lb ac tm1) [] (krd (Cit C S Nf a0 D lb) lb (Rrd (Cit C S Nf a0 D lb) ops' (kden (Cit C S Nf a0 D lb) l b) rest dst ac))) S3 :=
  by subst hrc; exact AE_round (C := Cit C S Nf a0 D lb) (S1 := ⟨tm1, []⟩) (nL := S.hp.length + 1) (by simp [Cit]) hsz hdf hL hdst (runD_AOps hdl h)
theorem round_ret (hrc : rc = recOf fid a0 ps assign body D) (hsz : ac.tmps.size = Nf) (hdf : ac.defers = []) (hdl : dl = dsts ops') (hL : S3.hp[S.hp.length + 1]? = some (.obj (rc .busy none))) (hdst : dstOk Nf dst = true)
    (h : runD (Cit C S Nf a0 D lb) ops' dl (kden (Cit C S Nf a0 D lb) l b) (exE (Cit C S Nf a0 D lb) b 400 .normal l) rest ⟨putTm tm1 dst (.bool false), S3.hp.set (S.hp.length + 1) (.obj (rc .done (some .ret)))⟩) :
    AE (Cb (Cit C S Nf a0 D lb) N0 lb ac tm1) .ret (kden (Cb (Cit C S Nf a0 D lb) N0 lb ac tm1) [] (krd (Cit C S Nf a0 D lb) lb (Rrd (Cit C S Nf a0 D lb) ops' (kden (Cit C S Nf a0 D lb) l b) rest dst ac))) S3 :=
  by subst hrc; exact AE_round_ret (C := Cit C S Nf a0 D lb) (S1 := ⟨tm1, []⟩) (nL := S.hp.length + 1) (by simp [Cit]) hsz hdf hL hdst (runD_AOps hdl h)
theorem round_exit {id : Nat} (hrc : rc = recOf fid a0 ps assign body D) (hsz : ac.tmps.size = Nf) (hdf : ac.defers = []) (hdl : dl = dsts ops') (hL : S3.hp[S.hp.length + 1]? = some (.obj (rc .busy none))) (hdst : dstOk Nf dst = true)
    (h : runD (Cit C S Nf a0 D lb) ops' dl (kden (Cit C S Nf a0 D lb) l b) (exE (Cit C S Nf a0 D lb) b 400 .normal l) rest ⟨putTm tm1 dst (.bool false), S3.hp.set (S.hp.length + 1) (.obj (rc .done (some (.exit id))))⟩) :
    AE (Cb (Cit C S Nf a0 D lb) N0 lb ac tm1) (.exit id) (kden (Cb (Cit C S Nf a0 D lb) N0 lb ac tm1) [] (krd (Cit C S Nf a0 D lb) lb (Rrd (Cit C S Nf a0 D lb) ops' (kden (Cit C S Nf a0 D lb) l b) rest dst ac))) S3 :=
  by subst hrc; exact AE_round_exit (C := Cit C S Nf a0 D lb) (S1 := ⟨tm1, []⟩) (nL := S.hp.length + 1) (by simp [Cit]) hsz hdf hL hdst (runD_AOps hdl h)
end

/-- A function's end behind a loop over a function, where nothing was handed over and no block is handed on. -/
theorem mark0 {C : Ctx} {S0 S : St} {D : Nat} {fn : Func} {r : AV} {e : Exit} {rs : Array ResultVar} (he : e = .ret ∨ e = .normal) (hp : C.ι0.length = 0) (hrs : fn.results = rs) (hn : S.hp[S0.hp.length]? = some (.obj (.deferred (some []))))
    (h : fin0A C.P ⟨S.tm, S.hp.set S0.hp.length .dead⟩ rs.toList r) (hdf : C.df = [] := by rfl) : AE (Cend C S0 D) e (kfin C fn r []) S := by
  show AE (Cend C S0 D) e (kfin (Cend C S0 D) fn r []) S
  refine AE_mark (n := S0.hp.length) (D := D) (ds := C.df) he rfl (by simp [Cend]) hn ?_
  show AE { Cend C S0 D with df := C.df } e (kfin { Cend C S0 D with df := C.df } fn r []) _
  exact fin0 he hp hrs h hdf

section
variable (C : Ctx) (S : St) (Nf : Nat) (a0 : Act) (D lb N0 : Nat) (ac : Act) (tm : List (Nat × AV))
theorem Cit_P : (Cit C S Nf a0 D lb).P = C.P := rfl
theorem Cit_N : (Cit C S Nf a0 D lb).N = Nf := rfl
theorem Cit_ι0 : (Cit C S Nf a0 D lb).ι0 = C.ι0 := rfl
theorem Cit_rd : (Cit C S Nf a0 D lb).rd = C.rd := rfl
theorem Cit_sus : (Cit C S Nf a0 D lb).sus = ⟨a0, S.tm⟩ :: C.sus := rfl
theorem Cit_pin : (Cit C S Nf a0 D lb).pin = (S.hp.length, D) :: (S.hp.length + 1, lb) :: C.pin := rfl
theorem Cend_P : (Cend C S D).P = C.P := rfl
theorem Cend_N : (Cend C S D).N = C.N := rfl
theorem Cend_ι0 : (Cend C S D).ι0 = C.ι0 := rfl
theorem Cend_rd : (Cend C S D).rd = C.rd := rfl
theorem Cend_sus : (Cend C S D).sus = C.sus := rfl
theorem Cend_pin : (Cend C S D).pin = (S.hp.length, D) :: C.pin := rfl
theorem Cb_P : (Cb C N0 lb ac tm).P = C.P := rfl
theorem Cb_N : (Cb C N0 lb ac tm).N = N0 := rfl
theorem Cb_ι0 : (Cb C N0 lb ac tm).ι0 = C.ι0 := rfl
theorem Cb_sus : (Cb C N0 lb ac tm).sus = ⟨ac, tm⟩ :: C.sus := rfl
theorem Cb_pin : (Cb C N0 lb ac tm).pin = C.pin := rfl
end

attribute [go_sem] List.idxOf_cons zipTm Cit_P Cit_N Cit_ι0 Cit_rd Cit_sus Cit_pin Cend_P Cend_N Cend_ι0 Cend_rd Cend_sus Cend_pin Cb_P Cb_N Cb_ι0 Cb_sus Cb_pin
end SX
