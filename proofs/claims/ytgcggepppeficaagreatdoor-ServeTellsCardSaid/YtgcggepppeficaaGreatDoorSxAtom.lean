/- SX: functions that the model gives itself; sync/atomic. -/
import Derived.Test.YtgcggepppeficaaGreatDoorSxName
import Derived.Laws.LoneSync
set_option linter.all false
set_option linter.unusedVariables false
set_option linter.unnecessarySimpa false
set_option linter.unusedSimpArgs false
namespace SX
open Go

/-- What a function of the model's own does, at a state, to arguments that read so. -/
def XDoes (P : Program) (f : FuncId) (args : List AV) (h : List Blk) (x : AV) (h' : List Blk) : Prop :=
  ∀ (wc : World) (ok0 : Nat → Prop) (fp : List Nat) (ι : Names') (w : World) (vs : List Value), Rel wc ok0 fp ι h w → DenL w (okN wc ok0 ι h) ι args vs →
    ∃ v w' ι', (callFunc f vs.toArray).run P w = .ok (.value v) w' ∧ Rel wc ok0 fp ι' h' w' ∧ Keeps w (okN wc ok0 ι h) w' (okN wc ok0 ι' h') ∧ Carried id ι ι' ∧ Den w' (okN wc ok0 ι' h') ι' x v

theorem ext_ex {C : Ctx} {S : St} {b : Kont} {l : List KI} {dl : List (Option Tmp)} {o : Oper} {rest : List Oper} {a : Operand} {as : Array Operand} {tys : Array TypeId} {f : FuncId} {fs cs : List AV} {x : AV} {h' : List Blk}
    (ho : o.op = .call { callee := .value a, args := as, argTypes := tys }) (hg : o.guard = none) (hf : S.ev a = .func (.func f) fs cs) (hdst : dstOk C.N o.dst = true)
    (hX : XDoes C.P f (fs ++ as.toList.map S.ev ++ cs) S.hp x h')
    (h : ∀ ops', runD C ops' dl (kden C l b) (exE C b 400 .normal l) rest ⟨putTm S.tm o.dst x, h'⟩) : ∀ ops', AOpsD C ops' dl (o :: rest) (kden C l b) S := by
  intro ops' hdl ι ac w hh
  subst hdl
  have hrest := run_sound (fun S hS => exE_sound _ _ _ _ hS) _ _ (runD_run _ _ (h ops'))
  have hw : Region.wanted o (yielded ops' ac.tmps) = true := by simp [Region.wanted, hg]
  simp only [wpL]
  rw [if_pos hw]
  have hev := hh.ev a
  rw [hf] at hev
  obtain ⟨vf, vc, he, hdf, hdc⟩ := hev
  obtain ⟨v, w', ι', hrun, hr', hk', hc', hd'⟩ := hX C.wc C.ok0 C.fp ι w (vf ++ as.toList.map ac.eval ++ vc) hh.rel (denL_append (denL_append hdf (denL_map S.ev hh.ev _)) hdc)
  have hvs : (vf.toArray ++ as.map ac.eval ++ vc.toArray) = (vf ++ as.toList.map ac.eval ++ vc).toArray := by
    apply Array.ext'
    simp
  have hres : (execOp ac.eval o).run C.P w = .ok (.value v) w' := by
    simp only [execOp, ho, resolve, Deferred.ofValue, he, Sem.run_bind, Sem.run_pure, Result.andThen_ok, invoke, hvs, hrun]
  refine ⟨fun f _ => C.hF f, ?_⟩
  rw [Oper.semAt_eq _ _ _ (by intro c e; rw [ho] at e; cases e), hres]
  exact hrest _ _ _ (hh.put hr' hk' hc' hd' hdst)

section
variable {P : Program} {f : FuncId} {fn : Func} (hf : P.funcs[f]? = some fn) (hname : (fn.name == "runtime.NumGoroutine") = false) (hb : fn.body.isNone = true) (hn : Extern.findNext fn = none)
include hf hname hb hn

theorem atom_load {k : IntKind} (he : Extern.find fn = some (Extern.Atomic.loadT (.int k))) {h : List Blk} {n o : Nat} {T : TypeId} {cs : List AV} {x : Int} (hn' : h[n]? = some (.box T cs)) (ho : cs[o]? = some (.int k x)) : XDoes P f [.ptr n o] h (.int k x) h := by
  intro wc ok0 fp ι w vs hr hd
  obtain ⟨v, vs', rfl, ⟨b, c, hi, rfl⟩, hd'⟩ := hd
  simp only [DenL] at hd'
  subst hd'
  obtain ⟨u, hu, hdu⟩ := reads_cells (hr.get hn' rfl hi) o (.int k x) ho
  simp only [Den] at hdu
  subst hdu
  rw [Nat.zero_add] at hu
  exact ⟨_, w, ι, run_call_load hf hname hb hn k he hu, hr, Keeps.refl _ _, carried_refl _, rfl⟩

omit hf hname hb hn in
theorem atom_set {h : List Blk} {wc : World} {ok0 : Nat → Prop} {fp : List Nat} {ι : Names'} {w : World} {n o b c : Nat} {T : TypeId} {cs : List AV} {k : IntKind} {y : Int} (hr : Rel wc ok0 fp ι h w) (hi : ι[n]? = some (b, c)) (hn' : h[n]? = some (.box T cs)) (ho : o < cs.length) :
    w.frozen? ⟨b, o, none⟩ = false ∧ Rel wc ok0 fp ι (h.set n (.box T (cs.set o (.int k y)))) (w.setCell ⟨b, o, none⟩ (.int k y)) ∧ Keeps w (okN wc ok0 ι h) (w.setCell ⟨b, o, none⟩ (.int k y)) (okN wc ok0 ι (h.set n (.box T (cs.set o (.int k y))))) := by
  obtain ⟨us, fz, hb', hfz, hd⟩ := hr.get hn' rfl hi
  have hul := denL_length hd
  simp only [Array.length_toList] at hul
  refine ⟨?_, hr.turn (w' := w.setCell ⟨b, o, none⟩ (.int k y)) (blk' := .box T (cs.set o (.int k y))) hi hn' rfl rfl rfl rfl rfl (by simp [World.setCell]) (fun j hj => ?_) (fun hk => ?_)⟩
  · simp only [World.frozen?, hb', Bool.and_eq_false_iff, decide_eq_false_iff_not]
    obtain ⟨f1, f2⟩ := fz
    simp only at hfz
    omega
  · simp only [World.setCell, Array.getElem?_modify]; rw [if_neg (by omega)]
  · refine ⟨us.setIfInBounds o (.int k y), fz, by simp [World.setCell, Array.getElem?_modify, hb'], by simpa using hfz, ?_⟩
    refine denL_iff.2 ⟨by simp [hul], fun j x hx => ?_⟩
    rw [Array.toList_setIfInBounds]
    by_cases e : j = o
    · subst e
      rw [List.getElem?_set_self ho] at hx
      cases hx
      exact ⟨.int k y, by rw [List.getElem?_set_self (by simp; omega)], rfl⟩
    · rw [List.getElem?_set_ne (by omega)] at hx
      obtain ⟨u, hu, hdu⟩ := (denL_iff.1 hd).2 j x hx
      exact ⟨u, by rw [List.getElem?_set_ne (by omega)]; exact hu, hdu.keep' hk (carried_refl _)⟩

theorem atom_store (he : Extern.find fn = some Extern.Atomic.storeT) {h : List Blk} {n o : Nat} {T : TypeId} {cs : List AV} {k : IntKind} {x : AV} {y : Int} (hn' : h[n]? = some (.box T cs)) (ho : cs[o]? = some x) :
    XDoes P f [.ptr n o, .int k y] h (.tup []) (h.set n (.box T (cs.set o (.int k y)))) := by
  intro wc ok0 fp ι w vs hr hd
  obtain ⟨v, vs', rfl, ⟨b, c, hi, rfl⟩, v2, vs2, rfl, hv2, hd'⟩ := hd
  simp only [DenL] at hd'
  subst hd'
  simp only [Den] at hv2
  subst hv2
  obtain ⟨u, hu, hdu⟩ := reads_cells (hr.get hn' rfl hi) o x ho
  rw [Nat.zero_add] at hu
  obtain ⟨hz, hr', hk'⟩ := atom_set (k := k) (y := y) hr hi hn' (List.getElem?_eq_some_iff.1 ho).1
  exact ⟨_, _, ι, run_call_store hf hname hb hn he hu hz, hr', hk', carried_refl _, [], rfl, rfl⟩

theorem atom_add {k : IntKind} (he : Extern.find fn = some (Extern.Atomic.update (Op.intArith .add) k true)) {h : List Blk} {n o : Nat} {T : TypeId} {cs : List AV} {x y : Int} (hn' : h[n]? = some (.box T cs)) (ho : cs[o]? = some (.int k x)) :
    XDoes P f [.ptr n o, .int k y] h (.int k (k.wrap (x + y))) (h.set n (.box T (cs.set o (.int k (k.wrap (x + y)))))) := by
  intro wc ok0 fp ι w vs hr hd
  obtain ⟨v, vs', rfl, ⟨b, c, hi, rfl⟩, v2, vs2, rfl, hv2, hd'⟩ := hd
  simp only [DenL] at hd'
  subst hd'
  simp only [Den] at hv2
  subst hv2
  obtain ⟨u, hu, hdu⟩ := reads_cells (hr.get hn' rfl hi) o _ ho
  simp only [Den] at hdu
  subst hdu
  rw [Nat.zero_add] at hu
  obtain ⟨hz, hr', hk'⟩ := atom_set (k := k) (y := k.wrap (x + y)) hr hi hn' (List.getElem?_eq_some_iff.1 ho).1
  exact ⟨_, _, ι, run_call_add hf hname hb hn k he hu hz (by simp [Op.intArith]), hr', hk', carried_refl _, rfl⟩
end
end SX
namespace SX
open Go
theorem pubA_nn {h : List Blk} {κ : List Nat} : ∀ {x : AV}, nn x = true → pubA h κ x = x ∧ (∀ p, pubV h κ p x) ∧ ∀ ρ, x.ren ρ = x := by
  intro x hx
  cases x
  case func fn fs cs =>
    cases fs with
    | cons => simp [nn] at hx
    | nil => cases cs with
      | cons => simp [nn] at hx
      | nil => exact ⟨rfl, fun p => ⟨trivial, trivial, rfl, rfl⟩, fun ρ => rfl⟩
  all_goals first
    | (simp only [nn, Bool.false_eq_true] at hx; done)
    | exact ⟨rfl, fun p => trivial, fun ρ => rfl⟩
theorem pubL_nn {h : List Blk} {κ : List Nat} : ∀ {cs : List AV}, cs.all nn = true → pubL h κ cs = cs ∧ (∀ p, pubVL h κ p cs) ∧ ∀ ρ, AV.renL ρ cs = cs
  | [], _ => ⟨rfl, fun _ => trivial, fun _ => rfl⟩
  | c :: cs, hc => by
    simp only [List.all_cons, Bool.and_eq_true] at hc
    obtain ⟨a1, a2, a3⟩ := pubA_nn (h := h) (κ := κ) hc.1
    obtain ⟨b1, b2, b3⟩ := pubL_nn (h := h) (κ := κ) hc.2
    exact ⟨by rw [pubL, a1, b1], fun p => ⟨a2 p, b2 p⟩, fun ρ => by rw [AV.renL, a3, b3]⟩
theorem pubL_n {h : List Blk} {κ : List Nat} {cs : List AV} (hc : cs.all nn = true) : pubL h κ cs = cs := (pubL_nn hc).1
theorem pubVL_n {h : List Blk} {κ : List Nat} {cs : List AV} {p : Nat} (hc : cs.all nn = true) : pubVL h κ p cs = True := eq_true ((pubL_nn hc).2.1 p)
theorem renL_n {ρ : Nat → Nat} {cs : List AV} (hc : cs.all nn = true) : AV.renL ρ cs = cs := (pubL_nn (h := []) (κ := []) hc).2.2 ρ

/-- internal/abi.NoEscape: its argument. -/
theorem ext_same {P : Program} {f : FuncId} {fn : Func} (hf : P.funcs[f]? = some fn) (hname : (fn.name == "runtime.NumGoroutine") = false) (hb : fn.body.isNone = true) (hn : Extern.findNext fn = none) (he : Extern.find fn = some Extern.AbiNoEscape.same) {h : List Blk} {x : AV} : XDoes P f [x] h x h := by
  intro wc ok0 fp ι w vs hr hd
  obtain ⟨v, vs', rfl, hv, hd'⟩ := hd
  simp only [DenL] at hd'
  subst hd'
  refine ⟨v, w, ι, ?_, hr, Keeps.refl _ _, carried_refl _, hv⟩
  rw [run_callFunc_extern hf hname hb hn he]
  rfl

@[go_sem] theorem take_bytesA (n : Nat) (t : List UInt8) : (bytesA t).take n = bytesA (t.take n) := by simp [bytesA]
@[go_sem] theorem drop_bytesA (n : Nat) (t : List UInt8) : (bytesA t).drop n = bytesA (t.drop n) := by simp [bytesA]
@[go_sem] theorem app_bytesA (s t : List UInt8) : bytesA s ++ bytesA t = bytesA (s ++ t) := by simp [bytesA]
attribute [go_sem] isU8'
end SX
