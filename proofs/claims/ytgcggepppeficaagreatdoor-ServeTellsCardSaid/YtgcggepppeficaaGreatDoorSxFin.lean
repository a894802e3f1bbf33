/- SX: a function's end. -/
import Derived.Test.YtgcggepppeficaaGreatDoorSxFn
set_option linter.all false
set_option linter.unusedVariables false
set_option linter.unnecessarySimpa false
set_option linter.unusedSimpArgs false
namespace SX
open Go

section
variable {w : World} {ok ok' : Nat → Prop} {ι ι' : Names'}

theorem cells_data {b : Nat} (hb : ok' b) (hk : Keeps w ok w ok') : ∀ {r : List AV} {o : Nat}, Reads w ok [] b o r → r.all one = true → DenCells w ok' b o r
  | [], _, _, _ => trivial
  | c :: r, o, h, h1 => by
    simp only [List.all_cons, Bool.and_eq_true] at h1
    obtain ⟨u, hu, hd⟩ := h 0 c (by simp)
    refine ⟨⟨u, hb, by simpa using hu, h1.1, hd.keep' hk (carried_refl _)⟩, cells_data hb hk ?_ h1.2⟩
    have := h.drop 1
    simpa using this

theorem rows_data {b m : Nat} (hb : ok' b) (hk : Keeps w ok w ok') : ∀ {l : List (List AV)} {s : Nat}, Reads w ok [] b (s * m) l.flatten → (∀ r ∈ l, r.length = m) → l.flatten.all one = true → DenRows w ok' m (some ⟨b, 0, none⟩) s l
  | [], _, _, _, _ => trivial
  | r :: l, s, h, hr, h1 => by
    simp only [List.flatten_cons, List.all_append, Bool.and_eq_true] at h1
    have hrl := hr r (by simp)
    refine ⟨⟨hrl, _, rfl, rfl, ?_⟩, rows_data hb hk (s := s + 1) ?_ (fun r' h' => hr r' (by simp [h'])) h1.2⟩
    · refine cells_data hb hk ?_ h1.1
      intro j x hx
      rw [show 0 + s * m = s * m by omega]
      exact h j x (by simp only [List.flatten_cons]; rw [List.getElem?_append_left (List.getElem?_eq_some_iff.1 hx).1]; exact hx)
    · have := h.drop m
      simp only [List.flatten_cons] at this
      rw [List.drop_append_of_le_length (by omega), List.drop_of_length_le (by omega)] at this
      rw [Nat.add_mul, Nat.one_mul]
      simpa using this

mutual
theorem Den.pub {h : List Blk} {κ : List Nat} {p : Nat} {ρ : Nat → Nat} (hρ : ∀ n b, κ.contains n = true → ι[n]? = some b → ι'[ρ n]? = some b) (hk : Keeps w ok w ok')
    (hown : ∀ n e m fl l b c, κ.contains n = false → p ≤ n → h[n]? = some (.rows e m fl l) → ι[n]? = some (b, c) → DenRows w ok' m (some ⟨b, 0, none⟩) 0 l) :
    ∀ (x : AV) {v : Value}, pubV h κ p x → Den w ok ι x v → Den w ok' ι' ((pubA h κ x).ren ρ) v
  | .int _ _, _, _, h => h
  | .bool _, _, _, h => h
  | .str _, _, _, h => h
  | .ptr n o, _, hv, ⟨b, c, hb, e⟩ => ⟨b, c, hρ _ _ hv hb, e⟩
  | .rptr n m i j, _, hv, ⟨b, c, hb, e⟩ => ⟨b, c, hρ _ _ hv hb, e⟩
  | .dptr r o, _, _, ⟨b, o', e, hc⟩ => ⟨b, o', e, DenCells.keep hk r hc⟩
  | .xs m l, _, _, ⟨a, cap, e, hl, hr⟩ => ⟨a, cap, e, hl, DenRows.keep hk l hr⟩
  | .own n m o len, v, hv, hd => by
    obtain ⟨b, c, ad, hb, h1, h2, h3⟩ := hd
    simp only [pubA]
    cases hc : κ.contains n with
    | true => simp only [if_true, AV.ren]; exact ⟨b, c, ad, hρ _ _ hc hb, h1, h2, h3⟩
    | false =>
      simp only [Bool.false_eq_true, if_false]
      have hv' := hv hc
      cases hh : h[n]? with
      | none => trivial
      | some blk =>
        rw [hh] at hv'
        cases blk with
        | dead => trivial
        | obj ob => trivial
        | box T cs => trivial
        | rows e m' fl l =>
          obtain ⟨rfl, h4, h5⟩ := hv'
          have hrows := hown n e m' fl l b c hc h5 hh hb
          simp only [cellsOfRows, AV.ren]
          refine ⟨some ⟨b, ad, none⟩, c - o, ?_, ?_, ?_⟩
          · rw [h3]; simp; omega
          · simp; omega
          · by_cases ho : o < c
            · rw [h2 ho]
              have := denRows_take len (denRows_drop o hrows)
              have := denRows_move (k := o) (s := 0) this
              simpa using this
            · have : (l.drop o).take len = [] := by
                have : len = 0 := by omega
                subst this; simp
              rw [this]; trivial
  | .nilsl, _, _, h => h
  | .zsl, _, _, h => h
  | .nilptr, _, _, h => h
  | .agg cs, _, hv, ⟨vs, e, h⟩ => ⟨vs, e, DenL.pub hρ hk hown cs hv h⟩
  | .tup cs, _, hv, ⟨vs, e, h⟩ => ⟨vs, e, DenL.pub hρ hk hown cs hv h⟩
  | .func _ fs cs, _, ⟨v1, v2, e1, e2⟩, ⟨vs, us, e, h, h'⟩ => ⟨vs, us, e, by have := DenL.pub hρ hk hown fs v1 h; rwa [e1] at this, by have := DenL.pub hρ hk hown cs v2 h'; rwa [e2] at this⟩
  | .nilfunc, _, _, h => h
  | .iface _ x, _, hv, ⟨u, e, h⟩ => ⟨u, e, Den.pub hρ hk hown x hv h⟩
  | .niliface, _, _, h => h
  | .gd _ _, _, hv, _ => hv.elim
  | .any, _, _, h => h
theorem DenL.pub {h : List Blk} {κ : List Nat} {p : Nat} {ρ : Nat → Nat} (hρ : ∀ n b, κ.contains n = true → ι[n]? = some b → ι'[ρ n]? = some b) (hk : Keeps w ok w ok')
    (hown : ∀ n e m fl l b c, κ.contains n = false → p ≤ n → h[n]? = some (.rows e m fl l) → ι[n]? = some (b, c) → DenRows w ok' m (some ⟨b, 0, none⟩) 0 l) :
    ∀ (cs : List AV) {vs : List Value}, pubVL h κ p cs → DenL w ok ι cs vs → DenL w ok' ι' (AV.renL ρ (pubL h κ cs)) vs
  | [], _, _, h => h
  | c :: cs, _, ⟨hv, hv'⟩, ⟨v, vs', e, h, h'⟩ => ⟨v, vs', e, Den.pub hρ hk hown c hv h, DenL.pub hρ hk hown cs hv' h'⟩
end
end

/-- The blocks that are kept at a function's end. -/
def finB (h : List Blk) (κ : List Nat) (ρ : Nat → Nat) (p : Nat) : List Nat → List Blk → Prop
  | [], [] => True
  | n :: ns, b' :: fs => (match h[n]? with
    | some b => b.pubV h κ p ∧ SubB ((b.pub h κ).ren ρ) b'
    | none => False) ∧ finB h κ ρ p ns fs
  | _, _ => False

theorem finB_get {h : List Blk} {κ : List Nat} {ρ : Nat → Nat} {p : Nat} : ∀ {ns : List Nat} {fs : List Blk}, finB h κ ρ p ns fs → ns.length = fs.length ∧
    ∀ (i : Nat) (b' : Blk), fs[i]? = some b' → ∃ n b, ns[i]? = some n ∧ h[n]? = some b ∧ b.pubV h κ p ∧ SubB ((b.pub h κ).ren ρ) b'
  | [], [], _ => ⟨rfl, fun i b' h => by simp at h⟩
  | [], _ :: _, h => h.elim
  | _ :: _, [], h => h.elim
  | n :: ns, b' :: fs, ⟨h1, h2⟩ => by
    obtain ⟨hl, hg⟩ := finB_get h2
    refine ⟨by simp [hl], fun i c hc => ?_⟩
    cases i with
    | zero =>
      simp at hc; subst hc
      cases hh : h[n]? with
      | none => rw [hh] at h1; exact h1.elim
      | some b => rw [hh] at h1; exact ⟨n, b, by simp, hh, h1.1, h1.2⟩
    | succ i => simpa using hg i c (by simpa using hc)

def livesTo (h : List Blk) : Nat → Prop
  | 0 => True
  | p + 1 => livesTo h p ∧ (match h[p]? with | some b => b.live = true | none => False)
theorem livesTo_get {h : List Blk} : ∀ {p : Nat}, livesTo h p → ∀ i, i < p → ∃ b, h[i]? = some b ∧ b.live = true
  | 0, _, i, hi => by omega
  | p + 1, ⟨h1, h2⟩, i, hi => by
    by_cases e : i = p
    · subst e
      cases hh : h[i]? with
      | none => rw [hh] at h2; exact h2.elim
      | some b => rw [hh] at h2; exact ⟨b, rfl, h2⟩
    · exact livesTo_get h1 i (by omega)

/-- All blocks of rows, from p on, are among those. -/
def keptAll (κ : List Nat) (p : Nat) : Nat → List Blk → Prop
  | _, [] => True
  | n, .rows _ _ _ _ :: h => (p ≤ n → κ.contains n = true) ∧ keptAll κ p (n + 1) h
  | n, .box _ _ :: h => keptAll κ p (n + 1) h
  | n, .dead :: h => keptAll κ p (n + 1) h
  | n, .obj _ :: h => keptAll κ p (n + 1) h
theorem keptAll_get {κ : List Nat} {p : Nat} : ∀ {h : List Blk} {s : Nat}, keptAll κ p s h → ∀ n e m fl l, h[n]? = some (.rows e m fl l) → p ≤ s + n → κ.contains (s + n) = true
  | [], s, _, n, e, m, fl, l, hn, _ => by simp at hn
  | b :: h, s, hk, n, e, m, fl, l, hn, hp => by
    cases n with
    | zero => simp at hn; subst hn; exact hk.1 hp
    | succ n =>
      have hk' : keptAll κ p (s + 1) h := by cases b <;> first | exact hk.2 | exact hk
      have := keptAll_get hk' n e m fl l (by simpa using hn) (by omega)
      rw [show s + 1 + n = s + (n + 1) by omega] at this; exact this

theorem contains_idx {κ : List Nat} {n : Nat} (h : κ.contains n = true) : ∃ i, κ.idxOf n = i ∧ κ[i]? = some n := by
  have hm : n ∈ κ := by simpa using h
  have hlt := List.idxOf_lt_length_of_mem hm
  exact ⟨_, rfl, by rw [List.getElem?_eq_getElem hlt, List.getElem_idxOf hlt]⟩

theorem AE_fin {C : Ctx} {S : St} {fn : Func} {r : AV} {fp' : List Blk} {e : Exit} {xs : List AV} {q : Prop} (he : e = .ret ∨ e = .normal) (p : Nat) (σ : List Nat) (hp : C.ι0.length = p)
    (hres : resA C.P S fn.results.toList = some (xs, q)) (hq : q) (hlive : livesTo S.hp p ∨ keptAll (List.range p ++ σ) p 0 S.hp) (hσ : σ.all (fun n => p ≤ n && n < S.hp.length) = true)
    (hpub : pubV S.hp (List.range p ++ σ) p (tupA xs)) (hr : Sub ((pubA S.hp (List.range p ++ σ) (tupA xs)).ren (List.range p ++ σ).idxOf) r)
    (hb : finB S.hp (List.range p ++ σ) (List.range p ++ σ).idxOf p (List.range p ++ σ) fp') (hnd : (List.range p ++ σ).Nodup) (hdf : C.df = [] := by rfl) : AE C e (kfin C fn r fp') S := by
  intro ι a w hh
  obtain ⟨κ, hκ⟩ : ∃ κ, κ = List.range p ++ σ := ⟨_, rfl⟩
  rw [← hκ] at hpub hr hb hnd hlive
  obtain ⟨v, hv, hdv⟩ := run_results hh hres hq
  have hιl : ι.length = S.hp.length := hh.rel.len
  have hpl : p ≤ ι.length := by
    rw [← hp]
    rcases Nat.lt_or_ge ι.length C.ι0.length with h1 | h1
    · have := hh.pre ι.length (C.ι0[ι.length]) (List.getElem?_eq_getElem h1)
      simp at this
    · exact h1
  have hκlt : ∀ (i n : Nat), κ[i]? = some n → n < ι.length := by
    intro i n hi
    have hm := List.mem_of_getElem? hi
    rw [hκ] at hm
    rcases List.mem_append.1 hm with h1 | h1
    · have := List.mem_range.1 h1; omega
    · have := (List.all_eq_true.1 hσ) n h1
      simp only [Bool.and_eq_true, decide_eq_true_eq] at this; omega
  obtain ⟨ι', hι'⟩ : ∃ ι' : Names', ι' = κ.map (fun n => (ι[n]?).getD (0, 0)) := ⟨_, rfl⟩
  have hget : ∀ (i n : Nat), κ[i]? = some n → ι'[i]? = ι[n]? := by
    intro i n hi
    rw [hι', List.getElem?_map, hi]
    simp [List.getElem?_eq_getElem (hκlt i n hi)]
  have hι'l : ι'.length = κ.length := by rw [hι']; simp
  have hpre : ∃ ιx, ι' = C.ι0 ++ ιx := by
    refine ⟨ι'.drop p, ?_⟩
    have : ι'.take p = C.ι0 := by
      apply List.ext_getElem?
      intro i
      rw [List.getElem?_take]
      by_cases hi : i < p
      · rw [if_pos hi]
        have hki : κ[i]? = some i := by rw [hκ, List.getElem?_append_left (by simpa using hi), List.getElem?_range hi]
        rw [hget i i hki]
        have hi0 : i < C.ι0.length := by omega
        have := hh.pre i (C.ι0[i]) (List.getElem?_eq_getElem hi0)
        simp only [id] at this
        rw [this, List.getElem?_eq_getElem hi0]
      · rw [if_neg hi, List.getElem?_eq_none (by omega)]
    rw [← this]; exact (List.take_append_drop p ι').symm
  obtain ⟨ιx, hιx⟩ := hpre
  have hρ : ∀ n b, κ.contains n = true → ι[n]? = some b → ι'[κ.idxOf n]? = some b := by
    intro n b hc hb'
    obtain ⟨i, hi, hi'⟩ := contains_idx hc
    rw [hi, hget i n hi']; exact hb'
  obtain ⟨hfl, hfg⟩ := finB_get hb
  have hfg' : ∀ (i : Nat) (b' : Blk) (bc : Nat × Nat), fp'[i]? = some b' → ι'[i]? = some bc → ∃ n b, κ[i]? = some n ∧ ι[n]? = some bc ∧ S.hp[n]? = some b ∧ b.pubV S.hp κ p ∧ SubB ((b.pub S.hp κ).ren κ.idxOf) b' ∧ (b'.live = true → b.live = true) := by
    intro i b' bc hi hbc
    obtain ⟨n, b, h1, h2, h3, h4⟩ := hfg i b' hi
    refine ⟨n, b, h1, by rw [← hget i n h1]; exact hbc, h2, h3, h4, fun hl => ?_⟩
    cases b with
    | dead => cases h4 <;> first | exact hl | (simp only [Blk.pub, Blk.ren] at *; exact hl)
    | box T cs => rfl
    | obj ob => rfl
    | rows e m fl l => rfl
  have hk : Keeps w (okN C.wc C.ok0 ι S.hp) w (okN C.wc C.ok0 ι' fp') := by
    intro b hb' hlt
    refine ⟨rfl, hb'.1, fun i c b' hi hl hbc => ?_⟩
    obtain ⟨n, b0, h1, h2, h3, _, _, h6⟩ := hfg' i b' _ hi hbc
    exact hb'.2 n c b0 h3 (h6 hl) h2
  have hown : ∀ n e m fl l b c, κ.contains n = false → p ≤ n → S.hp[n]? = some (.rows e m fl l) → ι[n]? = some (b, c) → DenRows w (okN C.wc C.ok0 ι' fp') m (some ⟨b, 0, none⟩) 0 l := by
    intro n e m fl l b c hc hpn hh' hi
    rcases hlive with hlive | hlive
    rotate_left
    · have := keptAll_get hlive n e m fl l hh' (by simpa using hpn)
      rw [Nat.zero_add, hc] at this; cases this
    obtain ⟨a1, a2, a3⟩ := hh.rel.own n b c _ hi hh' rfl
    obtain ⟨h1, h2⟩ := reads_cells a3
    obtain ⟨cells, fz, us, _, _, _, _, _, _, _, _, hones⟩ := a3
    have hbok : okN C.wc C.ok0 ι' fp' b := by
      refine ⟨?_, fun i c' b' hi' hl hbc => ?_⟩
      · rcases a2 with a2 | a2
        · exact .inr a2
        · exfalso
          obtain ⟨⟨b0, c0⟩, hm1, hm2⟩ := List.mem_map.1 a2
          simp only at hm2; subst hm2
          obtain ⟨j, hj, hje⟩ := List.getElem_of_mem hm1
          obtain ⟨bj, hbj, hlj⟩ := livesTo_get hlive j (by omega)
          have hιj := hh.pre j (b0, c0) (by rw [List.getElem?_eq_getElem hj, hje])
          have := hh.rel.inj _ _ _ _ _ _ _ hi hιj hh' hbj rfl hlj
          simp only [id] at this
          omega
      · obtain ⟨n', b0, g1, g2, g3, _, _, g6⟩ := hfg' i b' _ hi' hbc
        have := hh.rel.inj _ _ _ _ _ _ _ hi g2 hh' g3 rfl (g6 hl)
        subst this
        have : κ.contains n = true := by simpa using List.mem_of_getElem? g1
        rw [this] at hc; cases hc
    exact rows_data hbok hk (s := 0) (by simpa using h1) h2 hones
  have hmain : ∃ v, (results fn a.tmps).run C.P w = .ok v w ∧ ∃ v' ι'', Ending.returned v = .returned v' ∧ Rel C.wc C.ok0 C.fp (C.ι0 ++ ι'') fp' w ∧ Den w (okN C.wc C.ok0 (C.ι0 ++ ι'') fp') (C.ι0 ++ ι'') r v' := by
    refine ⟨v, hv, v, ιx, rfl, ?_, ?_⟩
    · rw [← hιx]
      refine ⟨hh.rel.os, hh.rel.tape, hh.rel.output, hh.rel.size, hh.rel.frame, by rw [hι'l, hfl], ?_, ?_⟩
      · intro i b c b' hi hf hl
        obtain ⟨n, b0, g1, g2, g3, g4, g5, g6⟩ := hfg' i b' _ hf hi
        obtain ⟨a1, a2, a3⟩ := hh.rel.own n b c b0 g2 g3 (g6 hl)
        refine ⟨a1, a2, g5.at ?_⟩
        cases b0 with
        | dead => trivial
        | box T cs =>
          obtain ⟨us, fz, e1, e2, e3⟩ := a3
          exact ⟨us, fz, e1, e2, DenL.pub hρ hk hown cs g4 e3⟩
        | obj ob => exact a3
        | rows e m fl l => exact BlkAt.keep hk (ι := ι) (carried_refl ι) rfl a3
      · intro i i' b c c' b1 b2 e1 e2 e3 e4 l1 l2
        obtain ⟨n, b0, g1, g2, g3, _, _, g6⟩ := hfg' i b1 _ e3 e1
        obtain ⟨n', b0', g1', g2', g3', _, _, g6'⟩ := hfg' i' b2 _ e4 e2
        have := hh.rel.inj _ _ _ _ _ _ _ g2 g2' g3 g3' (g6 l1) (g6' l2)
        subst this
        exact (List.getElem?_inj (List.getElem?_eq_some_iff.1 g1).1 hnd).1 (g1.trans g1'.symm)
    · rw [← hιx]
      exact hr _ _ _ _ (Den.pub hρ hk hown (tupA xs) hpub hdv)
  have hd : a.defers = [] := hh.df.trans hdf
  have hl : LeavesInM C.F C.n C.P fn a.tmps (fun e w' => ∃ v ι', e = .returned v ∧ Rel C.wc C.ok0 C.fp (C.ι0 ++ ι') fp' w' ∧ Den w' (okN C.wc C.ok0 (C.ι0 ++ ι') fp') (C.ι0 ++ ι') r v) a.defers .returning w := by
    rw [hd]; exact hmain
  rcases he with rfl | rfl <;> exact hl

/-- A function's end, where a loop over a function has left its mark. -/
theorem AE_mark {C : Ctx} {S : St} {fn : Func} {r : AV} {fp' : List Blk} {e : Exit} {n D : Nat} {ds : List Deferred} (he : e = .ret ∨ e = .normal) (hdf : C.df = { target := .collected D, args := #[] } :: ds) (hpin : (n, D) ∈ C.pin) (hn : S.hp[n]? = some (.obj (.deferred (some []))))
    (h : AE { C with df := ds } e (kfin C fn r fp') ⟨S.tm, S.hp.set n .dead⟩) : AE C e (kfin C fn r fp') S := by
  intro ι a w hh
  obtain ⟨c, hι⟩ := hh.pin _ hpin
  obtain ⟨hlt, hB, hat⟩ := hh.rel.own n D c _ hι hn rfl
  have hd : a.defers = { target := .collected D, args := #[] } :: ds := hh.df.trans hdf
  have htake : (Instr.takeDeferred D).run C.P w = .ok [] (w.putObj D (.deferred none)) := by
    exact run_takeDeferred hat
  obtain ⟨hr1, hk1⟩ := hh.rel.turn (w' := w.putObj D (.deferred none)) (blk' := .obj (.deferred none)) hι hn rfl rfl rfl rfl rfl (by simp [World.putObj]) (fun k hk => World.putObj_heap_other hk) (fun _ => World.putObj_heap_same hlt)
  obtain ⟨hr2, hk2⟩ := hr1.drop n
  rw [List.set_set] at hr2 hk2
  have hk : Keeps w (okN C.wc C.ok0 ι S.hp) (w.putObj D (.deferred none)) (okN C.wc C.ok0 ι (S.hp.set n .dead)) := fun b hb hlt' => by
    obtain ⟨e1, e2⟩ := hk1 b hb hlt'
    obtain ⟨e3, e4⟩ := hk2 b e2 (by simpa [World.putObj] using hlt')
    exact ⟨e3.trans e1, e4⟩
  have hh' : Here { C with df := ds } ⟨S.tm, S.hp.set n .dead⟩ ι { a with defers := ds } (w.putObj D (.deferred none)) :=
    ⟨hr2, fun t => (hh.tm t).keep' hk (carried_refl _), hh.sz, rfl, hh.pre, fun s hs t => (hh.sus s hs t).keep' hk (carried_refl _), hh.pin⟩
  have := h ι _ _ hh'
  have hstep : ∀ R : Ending → World → Prop, LeavesInM C.F C.n C.P fn a.tmps R ds .returning (w.putObj D (.deferred none)) → LeavesInM C.F C.n C.P fn a.tmps R a.defers .returning w := by
    intro R hR
    rw [hd]
    exact ⟨by simp, .inl ⟨D, _, rfl, htake, hR⟩⟩
  rcases he with rfl | rfl
  · exact hstep _ this
  · exact hstep _ this
end SX
