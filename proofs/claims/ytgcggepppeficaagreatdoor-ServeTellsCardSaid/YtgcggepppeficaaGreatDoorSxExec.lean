/- SX: code as a whole: what is to be shown of it, up to its calls, loops and ends. -/
import Derived.Test.YtgcggepppeficaaGreatDoorSxFin
set_option linter.all false
set_option linter.unusedVariables false
set_option linter.unnecessarySimpa false
set_option linter.unusedSimpArgs false
namespace SX
open Go

/-- What lies behind a piece of code. -/
inductive KI where
  | seq (y : Code)
  | block (id : Nat)

def kden (C : Ctx) : List KI → Kont → Kont
  | [], b => b
  | .seq y :: l, b => kseq C y (kden C l b)
  | .block id :: l, b => kblock id (kden C l b)

mutual
def exC (C : Ctx) (b : Kont) : Nat → Code → List KI → St → Prop
  | 0, c, l, S => AR C c (kden C l b) S
  | n + 1, .seq x y, l, S => exC C b n x (.seq y :: l) S
  | n + 1, .region _ ops false, l, S => ∀ ops' : Array Oper, runD C ops' (dsts ops) (kden C l b) (exE C b n .normal l) ops.toList S
  | n + 1, .cond c x y, l, S => match boolOf (S.ev c) with
    | some q => (q = true → exC C b n x l S) ∧ (q = false → exC C b n y l S)
    | none => False
  | n + 1, .block id c, l, S => exC C b n c (.block id :: l) S
  | n + 1, .skip, l, S => exE C b n .normal l S
  | n + 1, .exit id, l, S => exE C b n (.exit id) l S
  | n + 1, .ret, l, S => exE C b n .ret l S
  | _ + 1, c, l, S => AR C c (kden C l b) S
def exE (C : Ctx) (b : Kont) : Nat → Exit → List KI → St → Prop
  | 0, e, l, S => AE C e (kden C l b) S
  | n + 1, .normal, .seq y :: l, S => exC C b n y l S
  | n + 1, .normal, .block _ :: l, S => exE C b n .normal l S
  | n + 1, .ret, _ :: l, S => exE C b n .ret l S
  | n + 1, .exit id, .seq _ :: l, S => exE C b n (.exit id) l S
  | n + 1, .exit id, .block id' :: l, S => if id = id' then exE C b n .normal l S else exE C b n (.exit id) l S
  | _ + 1, e, l, S => AE C e (kden C l b) S
end

mutual
theorem exC_sound {C : Ctx} {b : Kont} : ∀ (n : Nat) (c : Code) (l : List KI) (S : St), exC C b n c l S → AR C c (kden C l b) S
  | 0, c, l, S, h => by simpa only [exC] using h
  | n + 1, .seq x y, l, S, h => by
    simp only [exC] at h
    exact AR_seq (exC_sound n x (.seq y :: l) S h)
  | n + 1, .region id ops false, l, S, h => by
    simp only [exC] at h
    exact AR_region (run_sound (fun S hS => exE_sound n .normal l S hS) _ _ (runD_run _ _ (h ops)))
  | n + 1, .region id ops true, l, S, h => by simpa only [exC] using h
  | n + 1, .cond c x y, l, S, h => by
    simp only [exC] at h
    split at h
    · rename_i q hq
      exact AR_cond hq (fun e => exC_sound n x l S (h.1 e)) (fun e => exC_sound n y l S (h.2 e))
    · exact h.elim
  | n + 1, .block id c, l, S, h => by
    simp only [exC] at h
    exact AR_block (exC_sound n c (.block id :: l) S h)
  | n + 1, .skip, l, S, h => by simp only [exC] at h; exact AR_skip (exE_sound n .normal l S h)
  | n + 1, .exit id, l, S, h => by simp only [exC] at h; exact AR_exit (exE_sound n (.exit id) l S h)
  | n + 1, .ret, l, S, h => by simp only [exC] at h; exact AR_ret (exE_sound n .ret l S h)
  | n + 1, .loop c, l, S, h => by simpa only [exC] using h
  | n + 1, .rangeFunc f ps a c, l, S, h => by simpa only [exC] using h
  | n + 1, .scope c, l, S, h => by simpa only [exC] using h
  | n + 1, .label i, l, S, h => by simpa only [exC] using h
  | n + 1, .goto i, l, S, h => by simpa only [exC] using h
  | n + 1, .refuse s, l, S, h => by simpa only [exC] using h
theorem exE_sound {C : Ctx} {b : Kont} : ∀ (n : Nat) (e : Exit) (l : List KI) (S : St), exE C b n e l S → AE C e (kden C l b) S
  | 0, e, l, S, h => by simpa only [exE] using h
  | n + 1, .normal, [], S, h => by simpa only [exE] using h
  | n + 1, .normal, .seq y :: l, S, h => by simp only [exE] at h; exact AE_seq (exC_sound n y l S h)
  | n + 1, .normal, .block id :: l, S, h => by simp only [exE] at h; exact AE_block (exE_sound n .normal l S h)
  | n + 1, .ret, [], S, h => by simpa only [exE] using h
  | n + 1, .ret, .seq y :: l, S, h => by simp only [exE] at h; exact AE_seq_ret (exE_sound n .ret l S h)
  | n + 1, .ret, .block id :: l, S, h => by simp only [exE] at h; exact AE_block_ret (exE_sound n .ret l S h)
  | n + 1, .exit id, [], S, h => by simpa only [exE] using h
  | n + 1, .exit id, .seq y :: l, S, h => by simp only [exE] at h; exact AE_seq_exit (exE_sound n (.exit id) l S h)
  | n + 1, .exit id, .block id' :: l, S, h => by
    simp only [exE] at h
    split at h
    · rename_i e; subst e; exact AE_block_exit (exE_sound n .normal l S h)
    · rename_i e; exact AE_block_exit' e (exE_sound n (.exit id) l S h)
  | n + 1, .goto i, [], S, h => by simpa only [exE] using h
  | n + 1, .goto i, .seq y :: l, S, h => by simpa only [exE] using h
  | n + 1, .goto i, .block id :: l, S, h => by simpa only [exE] using h
  | n + 1, .panic ch, [], S, h => by simpa only [exE] using h
  | n + 1, .panic ch, .seq y :: l, S, h => by simpa only [exE] using h
  | n + 1, .panic ch, .block id :: l, S, h => by simpa only [exE] using h
  | n + 1, .outgrown, [], S, h => by simpa only [exE] using h
  | n + 1, .outgrown, .seq y :: l, S, h => by simpa only [exE] using h
  | n + 1, .outgrown, .block id :: l, S, h => by simpa only [exE] using h
end

/-- A function's contract: what is to be shown of its body. -/
theorem acall_ex {P : Program} {f : FuncId} {fn : Func} {c : Code} {args : List AV} {fp fp' : List Blk} {r : AV} (hf : P.funcs[f]? = some fn) (hn : (fn.name == "runtime.NumGoroutine") = false) (hb : fn.body = some c) {N : Nat}
    (hN : fn.ntmps = N) (hle : args.length ≤ N)
    (h : ∀ (w : World) (ok0 : Nat → Prop) (ι : Names'), ι.length = fp.length → exC { P := P, rd := none, N := N, wc := w, ok0 := ok0, ι0 := ι } (kfin { P := P, rd := none, N := N, wc := w, ok0 := ok0, ι0 := ι } fn r fp') 400 c [] ⟨argTm 0 args, fp⟩) : ACall P f args fp r fp' :=
  acall_of hf hn hb hN hle fun w ok0 ι hι => exC_sound _ _ _ _ (h w ok0 ι hι)

/-- A call of a known function. -/
theorem call_ex {C : Ctx} {S : St} {b : Kont} {l : List KI} {dl : List (Option Tmp)} {o : Oper} {rest : List Oper} {a : Operand} {as : Array Operand} {tys : Array TypeId} {f : FuncId} {fs cs cargs : List AV} {fp fp' : List Blk} {r : AV} (σ : List Nat)
    (hA : ACall C.P f cargs fp r fp') (ho : o.op = .call { callee := .value a, args := as, argTypes := tys }) (hg : o.guard = none) (hf : S.ev a = .func (.func f) fs cs) (hdst : dstOk C.N o.dst = true)
    (hargs : AV.renL (inn σ S.hp.length) cargs = fs ++ as.toList.map S.ev ++ cs)
    (hlen : fp.length = σ.length) (hfp : ∀ (i n : Nat) (b : Blk), σ[i]? = some n → fp[i]? = some b → S.hp[n]? = some (b.ren (inn σ S.hp.length)) ∧ b.live = true) (hnd : σ.Nodup) (hge : σ.length ≤ fp'.length)
    (h : ∀ ops', runD C ops' dl (kden C l b) (exE C b 400 .normal l) rest ⟨putTm S.tm o.dst (r.ren (out σ S.hp.length)), patch σ S.hp.length S.hp fp'⟩) : ∀ ops', AOpsD C ops' dl (o :: rest) (kden C l b) S :=
  fun ops' hdl => AOps_call (fun S hS => exE_sound _ _ _ _ hS) σ ho hg hf hdst hA hargs hlen hfp hnd hge (by subst hdl; exact runD_run _ _ (h ops'))

/-- A call that is handed no own block, and gives none. -/
theorem call_pure {C : Ctx} {S : St} {b : Kont} {l : List KI} {dl : List (Option Tmp)} {o : Oper} {rest : List Oper} {a : Operand} {as : Array Operand} {tys : Array TypeId} {f : FuncId} {fs cs cargs : List AV} {r : AV}
    (hA : ACall C.P f cargs [] r []) (ho : o.op = .call { callee := .value a, args := as, argTypes := tys }) (hg : o.guard = none) (hf : S.ev a = .func (.func f) fs cs) (hdst : dstOk C.N o.dst = true)
    (hargs : AV.renL (inn [] S.hp.length) cargs = fs ++ as.toList.map S.ev ++ cs)
    (h : ∀ ops', runD C ops' dl (kden C l b) (exE C b 400 .normal l) rest ⟨putTm S.tm o.dst (r.ren (out [] S.hp.length)), S.hp⟩) : ∀ ops', AOpsD C ops' dl (o :: rest) (kden C l b) S :=
  call_ex [] hA ho hg hf hdst hargs rfl (fun i n b h => by simp at h) List.nodup_nil (Nat.le_refl _) (by simpa [patch, setAll] using h)

theorem loop_ex {C : Ctx} {S : St} {b : Kont} {l : List KI} {c : Code} {γ : Type} (I : γ → St) (μ : γ → Nat) (g0 : γ) (h0 : ∀ ι a w, Here C S ι a w → ∃ ι', Here C (I g0) ι' a w)
    (round : ∀ g, exC C (kloop C I μ g (kden C l b)) 400 c [] (I g)) : AR C (.loop c) (kden C l b) S :=
  AR_loop I μ g0 h0 fun g => exC_sound _ _ _ _ (round g)
theorem next_ex {C : Ctx} {S : St} {k : Kont} {γ : Type} {I : γ → St} {μ : γ → Nat} {g : γ} (g' : γ) (hlt : μ g' < μ g) (h : ∀ ι a w, Here C S ι a w → ∃ ι', Here C (I g') ι' a w) : AE C .normal (kloop C I μ g k) S := AE_loop g' hlt h
theorem out_ret {C : Ctx} {S : St} {b : Kont} {l : List KI} {γ : Type} {I : γ → St} {μ : γ → Nat} {g : γ} (h : exE C b 400 .ret l S) : AE C .ret (kloop C I μ g (kden C l b)) S := AE_loop_ret (exE_sound _ _ _ _ h)
theorem out_exit {C : Ctx} {S : St} {b : Kont} {l : List KI} {γ : Type} {I : γ → St} {μ : γ → Nat} {g : γ} {id : Nat} (h : exE C b 400 (.exit id) l S) : AE C (.exit id) (kloop C I μ g (kden C l b)) S := AE_loop_exit (exE_sound _ _ _ _ h)

attribute [go_sem] exC exE runD dsts roadD isCall quietOp quiet0 loudOp loud0 moreOp moreCall moreLoud copyA srcB eqOpA St.ev gtm argTm cellsA one varBlk cv dstOk putTm boolOf loadA cellsAt joinA storeA splice overlay fieldAddrA indexAddrA arithA binInt binStr binBool binA pickA solid unA indexA boundA lenA
  builtinA sliceA convA boolAt indexStrA extractA Sh.isIface Sh.agg roadOf strip need needs Op.operands chunks nn Sh.rooms buildA fillA appendA appendStrA ontoA srcA grownA killA makeA buildSliceA toBytesA toStrA strOf_bytesA sliceOwnA minmaxA aggPair eqAggA eqCellsA isZero isZeroO isSl sliceZA isU8 bytesA_length
end SX
