/- SX: calls of functions, by contracts that name no world. -/
import Derived.Test.YtgcggepppeficaaGreatDoorSxRegion
set_option linter.all false
set_option linter.unusedVariables false
set_option linter.unnecessarySimpa false
set_option linter.unusedSimpArgs false
namespace SX
open Go

/-- A contract: called with arguments that read so, where the blocks handed over read as fp, the function returns r, and leaves these blocks, and new ones, as fp'; all else that was there stays. Names: 0, 1, .. those of fp, then of fp'. -/
def ACall (P : Program) (f : FuncId) (args : List AV) (fp : List Blk) (r : AV) (fp' : List Blk) : Prop :=
  (∀ args w, (callFunc f args).run P w = .ok (.enter f args) w) ∧ ∀ (w : World) (ok0 : Nat → Prop) (ι : Names') (vs : List Value), Rel w ok0 (ι.map (·.1)) ι fp w → DenL w (okN w ok0 ι fp) ι args vs →
    Calls P f vs.toArray w fun e w' => ∃ v ι', e = .returned v ∧ Rel w ok0 (ι.map (·.1)) (ι ++ ι') fp' w' ∧ Den w' (okN w ok0 (ι ++ ι') fp') (ι ++ ι') r v

def Blk.ren (ρ : Nat → Nat) : Blk → Blk
  | .box T cs => .box T (AV.renL ρ cs)
  | .rows e m fl l => .rows e m fl l
  | .dead => .dead
  | .obj o => .obj o

theorem Blk.live_ren {ρ : Nat → Nat} (b : Blk) : (b.ren ρ).live = b.live := by cases b <;> rfl

section
variable {w w' : World} {ok ok' : Nat → Prop}

mutual
theorem Den.unren {ρ : Nat → Nat} : ∀ {ι ι' : Names'} (x : AV) {v : Value}, (∀ n b, ι[ρ n]? = some b → ι'[n]? = some b) → Den w ok ι (x.ren ρ) v → Den w ok ι' x v
  | _, _, .int _ _, _, _, h => h
  | _, _, .bool _, _, _, h => h
  | _, _, .str _, _, _, h => h
  | _, _, .ptr n o, _, hn, ⟨b, c, hb, e⟩ => ⟨b, c, hn _ _ hb, e⟩
  | _, _, .rptr _ _ _ _, _, hn, ⟨b, c, hb, e⟩ => ⟨b, c, hn _ _ hb, e⟩
  | _, _, .dptr r o, _, _, h => h
  | _, _, .xs m l, _, _, h => h
  | _, _, .own _ _ _ _, _, hn, ⟨b, c, ad, hb, h⟩ => ⟨b, c, ad, hn _ _ hb, h⟩
  | _, _, .nilsl, _, _, h => h
  | _, _, .zsl, _, _, h => h
  | _, _, .nilptr, _, _, h => h
  | _, _, .agg cs, _, hn, ⟨vs, e, h⟩ => ⟨vs, e, DenL.unren cs hn h⟩
  | _, _, .tup cs, _, hn, ⟨vs, e, h⟩ => ⟨vs, e, DenL.unren cs hn h⟩
  | _, _, .func _ fs cs, _, hn, ⟨vs, us, e, h, h'⟩ => ⟨vs, us, e, DenL.unren fs hn h, DenL.unren cs hn h'⟩
  | _, _, .nilfunc, _, _, h => h
  | _, _, .iface _ x, _, hn, ⟨u, e, h⟩ => ⟨u, e, Den.unren x hn h⟩
  | _, _, .niliface, _, _, h => h
  | _, _, .gd _ x, _, hn, ⟨h, h'⟩ => ⟨fun hb => Den.unren x hn (h hb), h'⟩
  | _, _, .any, _, _, h => h
theorem DenL.unren {ρ : Nat → Nat} : ∀ {ι ι' : Names'} (cs : List AV) {vs : List Value}, (∀ n b, ι[ρ n]? = some b → ι'[n]? = some b) → DenL w ok ι (AV.renL ρ cs) vs → DenL w ok ι' cs vs
  | _, _, [], _, _, h => h
  | _, _, c :: cs, _, hn, ⟨v, vs', e, h, h'⟩ => ⟨v, vs', e, Den.unren c hn h, DenL.unren cs hn h'⟩
end

theorem BlkAt.unren {ρ : Nat → Nat} {ι ι' : Names'} (hn : ∀ n b, ι[ρ n]? = some b → ι'[n]? = some b) {b c : Nat} {blk : Blk} (h : BlkAt w ok ι b c (blk.ren ρ)) : BlkAt w ok ι' b c blk := by
  cases blk with
  | box T cs => obtain ⟨vs, fz, h1, h2, h3⟩ := h; exact ⟨vs, fz, h1, h2, DenL.unren cs hn h3⟩
  | rows e m fl l => exact h
  | dead => trivial
  | obj o => exact h

theorem BlkAt.ren (hk : Keeps w ok w' ok') {ρ : Nat → Nat} {ι ι' : Names'} (hn : Carried ρ ι ι') {b c : Nat} {blk : Blk} (hb : w'.heap[b]? = w.heap[b]?) (h : BlkAt w ok ι b c blk) : BlkAt w' ok' ι' b c (blk.ren ρ) := by
  cases blk with
  | box T cs => obtain ⟨vs, fz, h1, h2, h3⟩ := h; exact ⟨vs, fz, hb.trans h1, h2, DenL.keep hk cs hn h3⟩
  | rows e m fl l => exact BlkAt.keep hk (ι := ι) (carried_refl ι) hb h
  | dead => trivial
  | obj o => exact Eq.trans hb h
end

/-- The callee's names as the caller's: those of the footprint, and new ones. -/
def inn (σ : List Nat) (N : Nat) : Nat → Nat := fun n => (σ[n]?).getD N
def out (σ : List Nat) (N : Nat) : Nat → Nat := fun n => if n < σ.length then (σ[n]?).getD N else N + (n - σ.length)

/-- The caller's blocks behind the call. -/
def setAll (ρ : Nat → Nat) : List Nat → List Blk → List Blk → List Blk
  | n :: σ, b :: fs, h => setAll ρ σ fs (h.set n (b.ren ρ))
  | _, _, h => h

theorem setAll_length (ρ : Nat → Nat) : ∀ (σ : List Nat) (fs h : List Blk), (setAll ρ σ fs h).length = h.length
  | [], fs, h => by simp [setAll]
  | n :: σ, [], h => by simp [setAll]
  | n :: σ, b :: fs, h => by simp [setAll, setAll_length ρ σ fs]
theorem setAll_other (ρ : Nat → Nat) {k : Nat} : ∀ (σ : List Nat) (fs h : List Blk), k ∉ σ → (setAll ρ σ fs h)[k]? = h[k]?
  | [], fs, h, _ => by simp [setAll]
  | n :: σ, [], h, _ => by simp [setAll]
  | n :: σ, b :: fs, h, hk => by
    simp only [List.mem_cons, not_or] at hk
    rw [setAll, setAll_other ρ σ fs _ hk.2, List.getElem?_set_ne (by omega)]
theorem setAll_self (ρ : Nat → Nat) {k i : Nat} {b : Blk} : ∀ (σ : List Nat) (fs h : List Blk), σ.Nodup → σ[i]? = some k → fs[i]? = some b → k < h.length → (setAll ρ σ fs h)[k]? = some (b.ren ρ) := by
  induction i with
  | zero =>
    intro σ fs h hn hs hf hk
    cases σ with
    | nil => simp at hs
    | cons n σ => cases fs with
      | nil => simp at hf
      | cons b' fs =>
        simp at hs hf; subst hs; subst hf
        rw [setAll, setAll_other ρ σ fs _ (by simpa using (List.nodup_cons.1 hn).1)]
        rw [List.getElem?_set_self hk]
  | succ i ih =>
    intro σ fs h hn hs hf hk
    cases σ with
    | nil => simp at hs
    | cons n σ => cases fs with
      | nil => simp at hf
      | cons b' fs =>
        rw [setAll]
        exact ih σ fs _ (List.nodup_cons.1 hn).2 (by simpa using hs) (by simpa using hf) (by simpa using hk)

def patch (σ : List Nat) (N : Nat) (hp : List Blk) (fp' : List Blk) : List Blk :=
  setAll (out σ N) σ fp' hp ++ (fp'.drop σ.length).map (Blk.ren (out σ N))

theorem okay_or {α : Type} {l : List α} {k : Nat} (h : l.length ≤ k) : l[k]? = none := List.getElem?_eq_none h

/-- A call, where the contract's names are put for the caller's. -/
theorem call_step {P : Program} {wc : World} {ok0 : Nat → Prop} {fp0 : List Nat} {ι : Names'} {h : List Blk} {w : World} {f : FuncId} {cargs args : List AV} {fp fp' : List Blk} {r : AV} {vs : List Value} (σ : List Nat)
    (hr : Rel wc ok0 fp0 ι h w) (hA : ACall P f cargs fp r fp') (hargs : AV.renL (inn σ h.length) cargs = args) (hd : DenL w (okN wc ok0 ι h) ι args vs)
    (hlen : fp.length = σ.length) (hfp : ∀ (i n : Nat) (b : Blk), σ[i]? = some n → fp[i]? = some b → h[n]? = some (b.ren (inn σ h.length)) ∧ b.live = true) (hnd : σ.Nodup) (hge : σ.length ≤ fp'.length) :
    Calls P f vs.toArray w fun e w' => ∃ v ι', e = .returned v ∧ Rel wc ok0 fp0 ι' (patch σ h.length h fp') w' ∧ Keeps w (okN wc ok0 ι h) w' (okN wc ok0 ι' (patch σ h.length h fp')) ∧ Carried id ι ι' ∧
      Den w' (okN wc ok0 ι' (patch σ h.length h fp')) ι' (r.ren (out σ h.length)) v := by
  -- the footprint's blocks
  have hσ : ∀ (i n : Nat), σ[i]? = some n → n < h.length := by
    intro i n hi
    have hlt := (List.getElem?_eq_some_iff.1 hi).1
    obtain ⟨h1, _⟩ := hfp i n (fp[i]'(by omega)) hi (List.getElem?_eq_getElem (by omega))
    exact (List.getElem?_eq_some_iff.1 h1).1
  obtain ⟨ιc, hιc⟩ : ∃ ιc : Names', ιc = σ.map (fun n => (ι[n]?).getD (0, 0)) := ⟨_, rfl⟩
  have hιcl : ιc.length = σ.length := by rw [hιc]; simp
  have hget : ∀ (i n : Nat), σ[i]? = some n → ιc[i]? = ι[n]? := by
    intro i n hi
    rw [hιc, List.getElem?_map, hi]
    have := hσ i n hi
    rw [← hr.len] at this
    simp [List.getElem?_eq_getElem this]
  have hback : ∀ (i : Nat) (bc : Nat × Nat), ιc[i]? = some bc → ∃ n, σ[i]? = some n ∧ ι[n]? = some bc := by
    intro i bc hi
    have hlt := (List.getElem?_eq_some_iff.1 hi).1
    rw [hιcl] at hlt
    exact ⟨σ[i], List.getElem?_eq_getElem hlt, by rw [← hget i _ (List.getElem?_eq_getElem hlt)]; exact hi⟩
  have hinn : ∀ n b, ι[inn σ h.length n]? = some b → ιc[n]? = some b := by
    intro n b hn
    unfold inn at hn
    cases hs : σ[n]? with
    | none => rw [hs] at hn; simp only [Option.getD_none] at hn; rw [okay_or (by rw [hr.len]; exact Nat.le_refl _)] at hn; cases hn
    | some m => rw [hs] at hn; rw [hget n m hs]; exact hn
  have hlive : ∀ (i : Nat) (bc : Nat × Nat), ιc[i]? = some bc → ∃ n blk, σ[i]? = some n ∧ ι[n]? = some bc ∧ h[n]? = some blk ∧ blk.live = true ∧ ∃ b, fp[i]? = some b ∧ blk = b.ren (inn σ h.length) ∧ b.live = true := by
    intro i bc hi
    obtain ⟨n, hn, hb⟩ := hback i bc hi
    have hlt := (List.getElem?_eq_some_iff.1 hn).1
    have hfi : fp[i]? = some (fp[i]'(by omega)) := List.getElem?_eq_getElem (by omega)
    obtain ⟨h1, h2⟩ := hfp i n _ hn hfi
    exact ⟨n, _, hn, hb, h1, by rw [Blk.live_ren]; exact h2, _, hfi, rfl, h2⟩
  -- what the callee may take data from
  have hok0 : Keeps w (okN wc ok0 ι h) w (okN w (okN wc ok0 ι h) ιc fp) := by
    intro b hb hlt
    refine ⟨rfl, .inl hb, fun n c blk hn hl he => ?_⟩
    obtain ⟨m, blk', hm, hι, hh, hl', _⟩ := hlive n _ he
    exact hb.2 m c blk' hh hl' hι
  have hrel : Rel w (okN wc ok0 ι h) (ιc.map (·.1)) ιc fp w := by
    refine ⟨rfl, rfl, rfl, Nat.le_refl _, fun _ _ _ => rfl, by rw [hιcl, hlen], ?_, ?_⟩
    · intro n b c blk hn hh hl
      obtain ⟨m, blk', hm, hι, hh', hl', b', hb', e1, e2⟩ := hlive n _ hn
      rw [hb'] at hh; cases hh
      obtain ⟨a1, a2, a3⟩ := hr.own m b c blk' hι hh' hl'
      subst e1
      refine ⟨a1, .inr (List.mem_map.2 ⟨(b, c), List.mem_of_getElem? hn, rfl⟩), ?_⟩
      exact BlkAt.keep hok0 (carried_refl _) rfl (BlkAt.unren hinn a3)
    · intro n n' b c c' blk blk' e1 e2 e3 e4 l1 l2
      obtain ⟨m, blk1, hm, hι, hh1, hl1, _⟩ := hlive n _ e1
      obtain ⟨m', blk2, hm', hι', hh2, hl2, _⟩ := hlive n' _ e2
      have := hr.inj _ _ _ _ _ _ _ hι hι' hh1 hh2 hl1 hl2
      subst this
      exact (List.getElem?_inj (List.getElem?_eq_some_iff.1 hm).1 hnd).1 (hm.trans hm'.symm)
  have hdc : DenL w (okN w (okN wc ok0 ι h) ιc fp) ιc cargs vs := by
    rw [← hargs] at hd
    exact (DenL.unren cargs hinn hd).keep' hok0 (carried_refl _)
  refine (hA.2 w (okN wc ok0 ι h) ιc vs hrel hdc).mono ?_
  rintro e w' ⟨v, ιx, rfl, hr', hden⟩
  have hlenx : ιc.length + ιx.length = fp'.length := by have := hr'.len; simpa using this
  obtain ⟨ρ, hρ⟩ : ∃ ρ, ρ = out σ h.length := ⟨_, rfl⟩
  have hcar : Carried ρ (ιc ++ ιx) (ι ++ ιx) := by
    intro n b hn
    rw [hρ]; unfold out
    by_cases hlt : n < σ.length
    · rw [if_pos hlt]
      rw [List.getElem?_append_left (by omega)] at hn
      obtain ⟨m, hm, hι⟩ := hback n b hn
      rw [hm]; simp only [Option.getD_some]
      rw [List.getElem?_append_left (List.getElem?_eq_some_iff.1 hι).1]; exact hι
    · rw [if_neg hlt]
      rw [List.getElem?_append_right (by omega), hιcl] at hn
      rw [List.getElem?_append_right (by rw [hr.len]; omega), hr.len, Nat.add_sub_cancel_left]; exact hn
  -- the blocks behind the call, one by one
  have hplen : (patch σ h.length h fp').length = h.length + (fp'.length - σ.length) := by simp [patch, setAll_length]
  have hpat : ∀ (k : Nat) (blk : Blk), (patch σ h.length h fp')[k]? = some blk →
      (∃ (i : Nat) (b : Blk), σ[i]? = some k ∧ fp'[i]? = some b ∧ blk = b.ren ρ ∧ k < h.length) ∨ (k ∉ σ ∧ k < h.length ∧ h[k]? = some blk) ∨ (h.length ≤ k ∧ ∃ b : Blk, fp'[σ.length + (k - h.length)]? = some b ∧ blk = b.ren ρ) := by
    intro k blk hk
    unfold patch at hk
    rw [← hρ] at hk
    rcases Nat.lt_or_ge k h.length with hlt | hge'
    · rw [List.getElem?_append_left (by rw [setAll_length]; exact hlt)] at hk
      by_cases hmem : k ∈ σ
      · obtain ⟨i, hi, hik⟩ := List.getElem_of_mem hmem
        have hi' : σ[i]? = some k := by rw [List.getElem?_eq_getElem hi, hik]
        have hfi : fp'[i]? = some (fp'[i]'(by omega)) := List.getElem?_eq_getElem (by omega)
        rw [setAll_self ρ σ fp' h hnd hi' hfi hlt] at hk
        cases hk
        exact .inl ⟨i, _, hi', hfi, rfl, hlt⟩
      · rw [setAll_other ρ σ fp' h hmem] at hk
        exact .inr (.inl ⟨hmem, hlt, hk⟩)
    · rw [List.getElem?_append_right (by rw [setAll_length]; exact hge'), setAll_length, List.getElem?_map, List.getElem?_drop] at hk
      rw [Option.map_eq_some_iff] at hk
      obtain ⟨b, hb, rfl⟩ := hk
      exact .inr (.inr ⟨hge', b, hb, rfl⟩)
  -- the names behind the call
  have hname : ∀ (k : Nat) (bc : Nat × Nat) (blk : Blk), (ι ++ ιx)[k]? = some bc → (patch σ h.length h fp')[k]? = some blk → blk.live = true →
      (∃ (i : Nat) (b : Blk), (ιc ++ ιx)[i]? = some bc ∧ fp'[i]? = some b ∧ blk = b.ren ρ ∧ b.live = true ∧ ρ i = k) ∨ (k ∉ σ ∧ ι[k]? = some bc ∧ h[k]? = some blk) := by
    intro k bc blk hk hp hl
    rcases hpat k blk hp with ⟨i, b, hi, hb, rfl, hlt⟩ | ⟨hn, hlt, hh⟩ | ⟨hge', b, hb, rfl⟩
    · rw [List.getElem?_append_left (by rw [hr.len]; exact hlt)] at hk
      refine .inl ⟨i, b, ?_, hb, rfl, by rw [Blk.live_ren] at hl; exact hl, ?_⟩
      · have hil := (List.getElem?_eq_some_iff.1 hi).1
        rw [List.getElem?_append_left (by omega), hget i k hi]; exact hk
      · rw [hρ]; unfold out; rw [if_pos (List.getElem?_eq_some_iff.1 hi).1, hi]; rfl
    · rw [List.getElem?_append_left (by rw [hr.len]; exact hlt)] at hk
      exact .inr ⟨hn, hk, hh⟩
    · rw [List.getElem?_append_right (by rw [hr.len]; exact hge'), hr.len] at hk
      refine .inl ⟨σ.length + (k - h.length), b, ?_, hb, rfl, by rw [Blk.live_ren] at hl; exact hl, ?_⟩
      · rw [List.getElem?_append_right (by omega), hιcl, Nat.add_sub_cancel_left]; exact hk
      · rw [hρ]; unfold out; rw [if_neg (by omega)]; omega
  have hkept : ∀ (k : Nat) (bc : Nat × Nat) (blk : Blk), k ∉ σ → ι[k]? = some bc → h[k]? = some blk → blk.live = true → bc.1 < w.heap.size ∧ bc.1 ∉ ιc.map (·.1) := by
    rintro k ⟨b, c⟩ blk hn hι hh hl
    refine ⟨(hr.own k b c blk hι hh hl).1, fun hm => ?_⟩
    obtain ⟨⟨b', c'⟩, hm1, hm2⟩ := List.mem_map.1 hm
    obtain ⟨i, hi, hie⟩ := List.getElem_of_mem hm1
    obtain ⟨m, blk', hm', hι', hh', hl', _⟩ := hlive i (b', c') (by rw [List.getElem?_eq_getElem hi, hie])
    simp only at hm2; subst hm2
    have := hr.inj _ _ _ _ _ _ _ hι hι' hh hh' hl hl'
    subst this
    exact hn (List.mem_of_getElem? hm')
  have hok1 : Keeps w (okN wc ok0 ι h) w' (okN wc ok0 (ι ++ ιx) (patch σ h.length h fp')) := by
    intro b hb hlt
    have hbn : b ∉ ιc.map (·.1) := by
      intro hm
      obtain ⟨⟨b', c'⟩, hm1, hm2⟩ := List.mem_map.1 hm
      obtain ⟨i, hi, hie⟩ := List.getElem_of_mem hm1
      obtain ⟨m, blk', hm', hι', hh', hl', _⟩ := hlive i (b', c') (by rw [List.getElem?_eq_getElem hi, hie])
      simp only at hm2; subst hm2
      exact hb.2 m c' blk' hh' hl' hι'
    refine ⟨hr'.frame b hlt hbn, hb.1, fun k c blk hp hl he => ?_⟩
    rcases hname k (b, c) blk he hp hl with ⟨i, b1, hi, hfi, rfl, hl1, _⟩ | ⟨hn, hι, hh⟩
    · rcases (hr'.own i b c b1 hi hfi hl1).2.1 with h1 | h1
      · omega
      · exact hbn h1
    · exact hb.2 k c blk hh hl hι
  have hok2 : Keeps w' (okN w (okN wc ok0 ι h) (ιc ++ ιx) fp') w' (okN wc ok0 (ι ++ ιx) (patch σ h.length h fp')) := by
    intro b hb hlt
    refine ⟨rfl, ?_, fun k c blk hp hl he => ?_⟩
    · rcases hb.1 with h1 | h1
      · exact h1.1
      · exact .inr (Nat.le_trans hr.size h1)
    · rcases hname k (b, c) blk he hp hl with ⟨i, b1, hi, hfi, rfl, hl1, _⟩ | ⟨hn, hι, hh⟩
      · exact hb.2 i c b1 hfi hl1 hi
      · rcases hb.1 with h1 | h1
        · exact h1.2 k c blk hh hl hι
        · have := (hkept k (b, c) blk hn hι hh hl).1
          simp only at this; omega
  refine ⟨v, ι ++ ιx, rfl, ⟨hr'.os.trans hr.os, hr'.tape.trans hr.tape, hr'.output.trans hr.output, Nat.le_trans hr.size hr'.size, fun b hb hf => ?_, ?_, ?_, ?_⟩, hok1, carried_append _ _, ?_⟩
  · refine (hr'.frame b (Nat.lt_of_lt_of_le hb hr.size) fun hm => ?_).trans (hr.frame b hb hf)
    obtain ⟨⟨b', c'⟩, hm1, hm2⟩ := List.mem_map.1 hm
    obtain ⟨i, hi, hie⟩ := List.getElem_of_mem hm1
    obtain ⟨m, blk', hm', hι', hh', hl', _⟩ := hlive i (b', c') (by rw [List.getElem?_eq_getElem hi, hie])
    simp only at hm2; subst hm2
    rcases (hr.own m b' c' blk' hι' hh' hl').2.1 with h1 | h1
    · omega
    · exact hf h1
  · rw [List.length_append, hplen, hr.len]; omega
  · intro k b c blk hk hp hl
    rcases hname k (b, c) blk hk hp hl with ⟨i, b1, hi, hfi, rfl, hl1, _⟩ | ⟨hn, hι, hh⟩
    · obtain ⟨a1, a2, a3⟩ := hr'.own i b c b1 hi hfi hl1
      refine ⟨a1, ?_, a3.ren hok2 hcar rfl⟩
      rcases a2 with a2 | a2
      · exact .inl (Nat.le_trans hr.size a2)
      · obtain ⟨⟨b', c'⟩, hm1, hm2⟩ := List.mem_map.1 a2
        obtain ⟨j, hj, hje⟩ := List.getElem_of_mem hm1
        obtain ⟨m, blk', hm', hι', hh', hl', _⟩ := hlive j (b', c') (by rw [List.getElem?_eq_getElem hj, hje])
        simp only at hm2; subst hm2
        exact (hr.own m b' c' blk' hι' hh' hl').2.1
    · obtain ⟨a1, a2, a3⟩ := hr.own k b c blk hι hh hl
      obtain ⟨k1, k2⟩ := hkept k (b, c) blk hn hι hh hl
      exact ⟨Nat.lt_of_lt_of_le a1 hr'.size, a2, a3.keep hok1 (carried_append _ _) (hr'.frame b k1 k2)⟩
  · intro k k' b c c' blk blk' e1 e2 e3 e4 l1 l2
    rcases hname k (b, c) blk e1 e3 l1 with ⟨i, b1, hi, hfi, rfl, hl1, hk1⟩ | ⟨hn, hι, hh⟩ <;>
      rcases hname k' (b, c') blk' e2 e4 l2 with ⟨i', b1', hi', hfi', rfl, hl1', hk1'⟩ | ⟨hn', hι', hh'⟩
    · have := hr'.inj _ _ _ _ _ _ _ hi hi' hfi hfi' hl1 hl1'
      rw [← hk1, ← hk1', this]
    · obtain ⟨k1, k2⟩ := hkept k' (b, c') blk' hn' hι' hh' l2
      rcases (hr'.own i b c b1 hi hfi hl1).2.1 with h1 | h1
      · simp only at k1; omega
      · exact absurd h1 k2
    · obtain ⟨k1, k2⟩ := hkept k (b, c) blk hn hι hh l1
      rcases (hr'.own i' b c' b1' hi' hfi' hl1').2.1 with h1 | h1
      · simp only at k1; omega
      · exact absurd h1 k2
    · exact hr.inj _ _ _ _ _ _ _ hι hι' hh hh' l1 l2
  · rw [← hρ]; exact Den.keep hok2 r hcar hden

section
variable {C : Ctx} {S : St} {k : Kont}

theorem denL_append {w : World} {ok : Nat → Prop} {ι : Names'} : ∀ {as bs : List AV} {us vs : List Value}, DenL w ok ι as us → DenL w ok ι bs vs → DenL w ok ι (as ++ bs) (us ++ vs)
  | [], bs, us, vs, h, h' => by simp only [DenL] at h; subst h; exact h'
  | a :: as, bs, us, vs, ⟨u, us', e, h, hs⟩, h' => by subst e; exact ⟨u, us' ++ vs, rfl, h, denL_append hs h'⟩

/-- A call of a function value that is known. -/
theorem AOps_call {ops : Array Oper} {o : Oper} {rest : List Oper} {a : Operand} {as : Array Operand} {tys : Array TypeId} {f : FuncId} {fs cs cargs : List AV} {fp fp' : List Blk} {r : AV} {E : St → Prop} (hE : ∀ S, E S → AE C .normal k S) (σ : List Nat)
    (ho : o.op = .call { callee := .value a, args := as, argTypes := tys }) (hg : o.guard = none) (hf : S.ev a = .func (.func f) fs cs) (hdst : dstOk C.N o.dst = true)
    (hA : ACall C.P f cargs fp r fp') (hargs : AV.renL (inn σ S.hp.length) cargs = fs ++ as.toList.map S.ev ++ cs)
    (hlen : fp.length = σ.length) (hfp : ∀ (i n : Nat) (b : Blk), σ[i]? = some n → fp[i]? = some b → S.hp[n]? = some (b.ren (inn σ S.hp.length)) ∧ b.live = true) (hnd : σ.Nodup) (hge : σ.length ≤ fp'.length)
    (h : run C ops k E rest ⟨putTm S.tm o.dst (r.ren (out σ S.hp.length)), patch σ S.hp.length S.hp fp'⟩) : AOps C ops (o :: rest) k S := by
  intro ι ac w hh
  have hw : Region.wanted o (yielded ops ac.tmps) = true := by simp [Region.wanted, hg]
  simp only [wpL]
  rw [if_pos hw]
  refine ⟨fun f _ => C.hF f, ?_⟩
  rw [Oper.semAt_eq _ _ _ (by intro c e; rw [ho] at e; cases e)]
  have hev := hh.ev a
  rw [hf] at hev
  obtain ⟨vf, vc, he, hdf, hdc⟩ := hev
  have hres : (execOp ac.eval o).run C.P w = .ok (.enter f (vf.toArray ++ as.map ac.eval ++ vc.toArray)) w := by
    simp only [execOp, ho, resolve, Deferred.ofValue, he, Sem.run_bind, Sem.run_pure, Result.andThen_ok, invoke, hA.1]
  rw [hres]
  simp only [Oper.uponIn]
  refine ⟨fun hd => by simp [Ctx.F, Fence.wide] at hd, ?_⟩
  have hvs : (vf.toArray ++ as.map ac.eval ++ vc.toArray) = (vf ++ as.toList.map ac.eval ++ vc).toArray := by
    apply Array.ext'
    simp
  have hcall := call_step σ hh.rel hA hargs (vs := vf ++ as.toList.map ac.eval ++ vc) (denL_append (denL_append hdf (denL_map S.ev hh.ev _)) hdc) hlen hfp hnd hge
  rw [hvs]
  refine ((callsIn_wide (n := 0)).2 hcall).mono ?_
  rintro e w' ⟨v, ι', rfl, hr', hk', hc', hd'⟩
  exact run_sound hE rest _ h _ _ _ (hh.put hr' hk' hc' hd' hdst)
end
end SX
