/- SX: the drawn region's rule. -/
import Derived.Test.YtgcggepppeficaaGreatDoorSxDraw2
set_option linter.all false
set_option linter.unusedVariables false
set_option linter.unnecessarySimpa false
set_option linter.unusedSimpArgs false
namespace SX
open Go

mutual
/-- All names in it are below m. -/
def sc (m : Nat) : AV → Bool
  | .ptr n _ => decide (n < m)
  | .rptr n _ _ _ => decide (n < m)
  | .own n _ _ _ => decide (n < m)
  | .agg cs => scL m cs
  | .tup cs => scL m cs
  | .func _ fs cs => scL m fs && scL m cs
  | .iface _ x => sc m x
  | .gd _ x => sc m x
  | _ => true
def scL (m : Nat) : List AV → Bool
  | [] => true
  | c :: cs => sc m c && scL m cs
end

/-- Frames that stand by speak of names below m. -/
def susOk (m : Nat) : List Sus → List (Nat × Nat) → Prop
  | [], [] => True
  | s :: l, ps => s.tm.all (fun p => sc m p.2) = true ∧ susOk m l ps
  | [], p :: ps => p.1 < m ∧ susOk m [] ps

theorem sc_gtm {m : Nat} : ∀ {tm : List (Nat × AV)}, tm.all (fun p => sc m p.2) = true → ∀ t, sc m (gtm tm t) = true
  | [], _, t => rfl
  | (s, x) :: l, h, t => by
    simp only [List.all_cons, Bool.and_eq_true] at h
    simp only [gtm]
    split
    · exact h.1
    · exact sc_gtm h.2 t

theorem susOk_tm {m : Nat} : ∀ {l : List Sus} {ps : List (Nat × Nat)}, susOk m l ps → ∀ {s : Sus}, s ∈ l → ∀ t, sc m (gtm s.tm t) = true
  | [], _, _, s, hs, t => by simp at hs
  | s' :: l, ps, h, s, hs, t => by
    simp only [susOk] at h
    rcases List.mem_cons.1 hs with rfl | hs
    · exact sc_gtm h.1 t
    · exact susOk_tm h.2 hs t

theorem susOk_pin {m : Nat} : ∀ {l : List Sus} {ps : List (Nat × Nat)}, susOk m l ps → ∀ {p : Nat × Nat}, p ∈ ps → p.1 < m
  | [], [], _, p, hp => by simp at hp
  | s :: l, ps, h, p, hp => by simp only [susOk] at h; exact susOk_pin h.2 hp
  | [], p' :: ps, h, p, hp => by
    simp only [susOk] at h
    rcases List.mem_cons.1 hp with rfl | hp
    · exact h.1
    · exact susOk_pin h.2 hp

mutual
theorem fr_sc {m n : Nat} (hn : m ≤ n) : ∀ x : AV, sc m x = true → fr n x = true
  | .int _ _, _ => rfl
  | .bool _, _ => rfl
  | .str _, _ => rfl
  | .ptr k _, h => by simp only [sc, decide_eq_true_eq] at h; simp [fr]; omega
  | .rptr k _ _ _, h => by simp only [sc, decide_eq_true_eq] at h; simp [fr]; omega
  | .dptr _ _, _ => rfl
  | .xs _ _, _ => rfl
  | .own k _ _ _, h => by simp only [sc, decide_eq_true_eq] at h; simp [fr]; omega
  | .nilsl, _ => rfl
  | .zsl, _ => rfl
  | .nilptr, _ => rfl
  | .agg cs, h => frL_sc hn cs h
  | .tup cs, h => frL_sc hn cs h
  | .func _ fs cs, h => by
    simp only [sc, Bool.and_eq_true] at h
    simp only [fr, Bool.and_eq_true]
    exact ⟨frL_sc hn fs h.1, frL_sc hn cs h.2⟩
  | .nilfunc, _ => rfl
  | .iface _ x, h => fr_sc hn x h
  | .niliface, _ => rfl
  | .gd _ x, h => fr_sc hn x h
  | .any, _ => rfl
theorem frL_sc {m n : Nat} (hn : m ≤ n) : ∀ cs : List AV, scL m cs = true → frL n cs = true
  | [], _ => rfl
  | c :: cs, h => by
    simp only [scL, Bool.and_eq_true] at h
    simp only [frL, Bool.and_eq_true]
    exact ⟨fr_sc hn c h.1, frL_sc hn cs h.2⟩
end

def scH (m : Nat) : List Blk → Bool
  | [] => true
  | .box T cs :: h => scL m cs && scH m h
  | _ :: h => scH m h
theorem scH_fr {m n : Nat} (hn : m ≤ n) : ∀ {h : List Blk}, scH m h = true → frH n h
  | [], _ => fun k T cs hk => by simp at hk
  | b :: h, hs => by
    have h' : scH m h = true ∧ ∀ T cs, b = .box T cs → scL m cs = true := by
      cases b <;> simp only [scH, Bool.and_eq_true] at hs
      case box T cs' => exact ⟨hs.2, fun T cs e => by cases e; exact hs.1⟩
      all_goals exact ⟨hs, fun T cs e => by cases e⟩
    intro k T cs hk
    cases k with
    | zero => simp at hk; exact frL_sc hn cs (h'.2 T cs hk)
    | succ k => exact scH_fr hn h'.1 k T cs (by simpa using hk)


theorem road_none {ops : List Oper} {ev : Operand → AV} {o : Oper} {pc : Bool} (hg : o.guard = none) (h : roadOf ops ev o = some pc) : pc = true := by
  unfold roadOf at h; rw [hg] at h; simpa using h.symm

/-- An operation's step out of what it does at each state that agrees. -/
theorem dstep_of {C : Ctx} {ops : Array Oper} {i : Nat} {o : Oper} {S : St} {pc : Bool} {x : AV} {R : List Loc} {ups : List (Nat × Blk)} (hi : ops[i]? = some o) (hroad : roadOf ops.toList S.ev o = some pc) (hdst : dstOk C.N o.dst = true)
    (hR : ∀ ℓ ∈ guardLoc ops.toList o, ℓ ∈ R) (hups : ups = [] ∨ pc = true)
    (hdo : pc = true → ∀ S' : St, S'.hp.length = S.hp.length → (∀ ℓ ∈ R, S'.agree S ℓ) → ∀ ι a w, Here C S' ι a w → ∀ (Q : Exit → Act → World → Prop) (next : Act → World → Prop),
      (∀ v ι' w', Rel C.wc C.ok0 C.fp ι' (setUps ups S'.hp) w' → Keeps w (okN C.wc C.ok0 ι S'.hp) w' (okN C.wc C.ok0 ι' (setUps ups S'.hp)) → Carried id ι ι' → Den w' (okN C.wc C.ok0 ι' (setUps ups S'.hp)) ι' x v → next (a.put o.dst v) w') → o.wpIn C.F C.n C.P a w next Q) :
    DStep C ops i ⟨o.dst, gdw o pc x, R, ups, none⟩ S := by
  intro S' hl hag _ ι a w hh Q next hnext
  have hroad' : roadOf ops.toList S'.ev o = some pc := by rw [road_agree fun ℓ hℓ => hag ℓ (hR ℓ hℓ)]; exact hroad
  have hw := wanted_road hh hroad'
  unfold wpOpIn
  rw [hi]
  simp only
  rw [hw]
  cases hpc : pc with
  | true =>
    rw [if_pos rfl]
    refine hdo hpc S' hl hag ι a w hh Q next fun v ι' w' h1 h2 h3 h4 => hnext _ _ _ (hh.put h1 h2 h3 ?_ hdst)
    unfold gdw
    split
    · exact h4
    · rw [hpc]; exact ⟨fun _ => h4, fun e => by cases e⟩
  | false =>
    rw [if_neg (by simp)]
    have hg : ∃ g, o.guard = some g := by
      cases hg : o.guard with
      | none => have := road_none hg hroad; rw [hpc] at this; cases this
      | some g => exact ⟨g, rfl⟩
    obtain ⟨g, hg⟩ := hg
    have hu : ups = [] := hups.resolve_right (by rw [hpc]; simp)
    subst hu
    refine ⟨fun f _ => C.hF f, hnext _ _ _ (hh.put hh.rel (Keeps.refl _ _) (carried_refl _) ?_ hdst)⟩
    unfold gdw
    rw [hg, hpc]
    exact ⟨fun e => (by cases e), fun _ => rfl⟩

theorem newA_congr {P : Program} {ev ev' : Operand → AV} {n : Nat} {o : Op} (h : ∀ x ∈ o.operands.toList, ev x = ev' x) : newA P ev n o = newA P ev' n o := by
  cases o <;> simp only [newA]
  case box t a => rw [h a (by simp [Op.operands])]
  case makeSlice t a b => rw [h a (by simp [Op.operands]), h b (by simp [Op.operands])]
  case buildSlice t len ps =>
    have h1 : (ps.toList.map fun p => (p.1, ev p.2)) = ps.toList.map fun p => (p.1, ev' p.2) := List.map_congr_left fun p hp => by rw [h p.2 (by simp only [Op.operands, Array.toList_map]; exact List.mem_map_of_mem hp)]
    rw [h1]

theorem gtm_put_fr {n : Nat} {tm : List (Nat × AV)} {dst : Option Tmp} {x : AV} (t : Nat) : gtm (putTm tm dst x) t = x ∨ gtm (putTm tm dst x) t = gtm tm t := by
  cases dst with
  | none => exact .inr rfl
  | some d =>
    simp only [putTm, gtm]
    split
    · exact .inl rfl
    · exact .inr rfl

/-- A name that was laid by is taken by a new block: the state. -/
theorem Here.fill {C : Ctx} {S : St} {ι : Names'} {a : Act} {w w' : World} {n c : Nat} {blk : Blk} {x : AV} {v : Value} {dst : Option Tmp} (hh : Here C S ι a w) (hL : C.ι0.length ≤ n) (hsus : ∀ s ∈ C.sus, ∀ t, fr n (gtm s.tm t) = true) (hpin : ∀ p ∈ C.pin, p.1 ≠ n) (hfr : FrS n S)
    (hr : Rel C.wc C.ok0 C.fp (ι.set n (w.heap.size, c)) (S.hp.set n blk) w') (hk : Keeps w (okN C.wc C.ok0 ι S.hp) w' (okN C.wc C.ok0 (ι.set n (w.heap.size, c)) (S.hp.set n blk)))
    (hd : Den w' (okN C.wc C.ok0 (ι.set n (w.heap.size, c)) (S.hp.set n blk)) (ι.set n (w.heap.size, c)) x v) (hdst : dstOk C.N dst = true) :
    Here C ⟨putTm S.tm dst x, S.hp.set n blk⟩ (ι.set n (w.heap.size, c)) (a.put dst v) w' := by
  have hcar : ∀ k b, k ≠ n → ι[k]? = some b → (ι.set n (w.heap.size, c))[k]? = some b := fun k b hk hb => by rw [List.getElem?_set_ne (by omega)]; exact hb
  refine ⟨hr, fun t => ?_, ?_, ?_, fun k b hb => ?_, fun s hs t => Den.fr hk hcar _ (hsus s hs t) (hh.sus s hs t), fun p hp => let ⟨c', h⟩ := hh.pin p hp; ⟨c', hcar _ _ (hpin p hp) h⟩⟩
  · have hold := Den.fr hk hcar _ (hfr.1 t) (hh.tm t)
    cases dst with
    | none => exact hold
    | some d =>
      simp only [dstOk, decide_eq_true_eq] at hdst
      simp only [putTm, gtm, Act.put]
      by_cases e : d = t
      · subst e
        simp only [if_true]
        have : (a.tmps.setIfInBounds d v).getD d Go.undef = v := by
          rw [← hh.sz] at hdst
          simp [Array.getD, hdst]
        rw [this]; exact hd
      · rw [if_neg e]
        have : (a.tmps.setIfInBounds d v).getD t Go.undef = a.tmps.getD t Go.undef := by
          simp [Array.getElem?_setIfInBounds_ne e]
        rw [this]; exact hold
  · cases dst with
    | none => exact hh.sz
    | some d => simp [Act.put, hh.sz]
  · cases dst with
    | none => exact hh.df
    | some d => exact hh.df
  · have hlt := (List.getElem?_eq_some_iff.1 hb).1
    have := hh.pre k b hb
    simp only [id] at this ⊢
    exact hcar _ _ (by omega) this

theorem frBs_one {n : Nat} {b : Blk} (h : mntN.frBs n [b] = true) : ∀ T cs, b = .box T cs → frL n cs = true := by
  intro T cs e; subst e
  simpa [mntN.frBs] using h

/-- An operation that makes a block is a step. -/
theorem dstep_new {C : Ctx} {ops : Array Oper} {i : Nat} {o : Oper} {S : St} {x : AV} {b : Blk} {p : Prop} {R : List Loc} {n : Nat} (hi : ops[i]? = some o) (hg : o.guard = none) (hnd : ∀ c, o.op ≠ .defer c) (hdst : dstOk C.N o.dst = true) (hL : C.ι0.length ≤ n)
    (hsus : ∀ s ∈ C.sus, ∀ t, fr n (gtm s.tm t) = true) (hpin : ∀ p ∈ C.pin, p.1 ≠ n) (hnew : newA C.P S.ev n o.op = some (x, b, p)) (hp : p) (hdead : S.hp[n]? = some .dead) (hfb : mntN.frBs n [b] = true) (hR : ∀ ℓ ∈ opLocs o.op.operands.toList ++ [.b n], ℓ ∈ R) :
    DStep C ops i ⟨o.dst, x, R, [(n, b)], some n⟩ S := by
  intro S' hl hag hfr ι a w hh Q next hnext
  have hw : Region.wanted o (yielded ops a.tmps) = true := by simp [Region.wanted, hg]
  unfold wpOpIn
  rw [hi]
  simp only
  rw [hw, if_pos rfl]
  have hev : ∀ y ∈ o.op.operands.toList, S'.ev y = S.ev y := fun y hy => St.ev_agree fun t ht => hag _ (hR _ (List.mem_append_left _ (opLocs_mem (ht ▸ hy))))
  have hnew' : newA C.P S'.ev n o.op = some (x, b, p) := by rw [newA_congr (ev' := S.ev) hev]; exact hnew
  have hdead' : S'.hp[n]? = some .dead := by rw [← hdead]; exact hag (.b n) (hR _ (by simp))
  obtain ⟨f, hf, v, w', obj, c, hrun, g1, g2, g3, g4, g5, g6⟩ := newA_does (w := w) (ok := okN C.wc C.ok0 ι S'.hp) (ι := ι) (ρ := a.eval) S'.ev hh.ev hnew' hp
  have hfrs := hfr n rfl
  obtain ⟨hr', hk'⟩ := hh.rel.fill g1 g2 g3 g4 hdead' hfrs.2 (frBs_one hfb) g5
  refine ⟨fun f _ => C.hF f, ?_⟩
  rw [Oper.semAt_eq _ _ _ hnd, hrun]
  have hlt : n < ι.length := by rw [hh.rel.len]; exact (List.getElem?_eq_some_iff.1 hdead').1
  exact hnext _ _ _ (hh.fill hL hsus hpin hfrs hr' hk' (by rw [← hf]; exact g6 _ _ n (by rw [List.getElem?_set_self hlt])) hdst)

theorem mntN_spec {n : Nat} {x : AV} {bs : List Blk} : ∀ {L M : Nat}, L ≤ n → n < L + M → n ∉ mntN L M x bs → fr n x = true ∧ mntN.frBs n bs = true
  | L, 0, h1, h2, _ => by omega
  | L, M + 1, h1, h2, h => by
    simp only [mntN] at h
    by_cases e : n = L
    · subst e
      split at h
      · rename_i hc; simpa using hc
      · simp at h
    · split at h
      · exact mntN_spec (L := L + 1) (M := M) (by omega) (by omega) h
      · simp only [List.mem_cons, not_or] at h
        exact mntN_spec (L := L + 1) (M := M) (by omega) (by omega) h.2

theorem ltAll_spec {nn : Nat} : ∀ {l : List Nat}, ltAll nn l = true → ∀ n ∈ l, n < nn
  | [], _, n, h => by simp at h
  | m :: l, h, n, hn => by
    simp only [ltAll, Bool.and_eq_true, decide_eq_true_eq] at h
    rcases List.mem_cons.1 hn with rfl | hn
    · exact h.1
    · exact ltAll_spec h.2 n hn

theorem frBs_mem {n : Nat} : ∀ {bs : List Blk}, mntN.frBs n bs = true → ∀ b ∈ bs, ∀ T cs, b = .box T cs → frL n cs = true
  | [], _, b, hb, _, _, _ => by simp at hb
  | b' :: bs, h, b, hb, T, cs, e => by
    have h' : mntN.frBs n bs = true ∧ ∀ T cs, b' = .box T cs → frL n cs = true := by
      cases b' <;> simp only [mntN.frBs, Bool.and_eq_true] at h
      case box T cs' => exact ⟨h.2, fun T cs e => by cases e; exact h.1⟩
      all_goals exact ⟨h, fun T cs e => by cases e⟩
    rcases List.mem_cons.1 hb with rfl | hb
    · exact h'.2 T cs e
    · exact frBs_mem h'.1 b hb T cs e

/-- What the records say of the reserved names. -/
structure NwInv (L M nn : Nat) (done : List DRec) : Prop where
  A : ∀ (i : Nat) (r : DRec) (n : Nat), done[i]? = some r → r.nw = some n → L ≤ n ∧ n < nn ∧ n < L + M
  B : ∀ (i : Nat) (r : DRec) (n : Nat), done[i]? = some r → r.nw = some n → ∀ (j : Nat) (r' : DRec), done[j]? = some r' → j ≠ i → r'.free n ∨ (i < j ∧ Loc.f n ∈ r'.R)
  Cc : ∀ n, L ≤ n → nn ≤ n → n < L + M → ∀ (j : Nat) (r' : DRec), done[j]? = some r' → r'.free n

theorem NwInv.snoc {L M nn nn' : Nat} {done : List DRec} {r : DRec} (h : NwInv L M nn done) (hle : nn ≤ nn') (hLn : L ≤ nn) (hnw : r.nw = none ∨ (r.nw = some nn ∧ nn' = nn + 1 ∧ nn < L + M))
    (hm : ∀ n, L ≤ n → n < L + M → r.free n ∨ (Loc.f n ∈ r.R ∧ n < nn')) : NwInv L M nn' (done ++ [r]) := by
  have hget : ∀ (j : Nat) (r' : DRec), (done ++ [r])[j]? = some r' → (j < done.length ∧ done[j]? = some r') ∨ (j = done.length ∧ r' = r) := by
    intro j r' hj
    rcases Nat.lt_or_ge j done.length with hlt | hge
    · rw [List.getElem?_append_left hlt] at hj; exact .inl ⟨hlt, hj⟩
    · rw [List.getElem?_append_right hge] at hj
      cases hd : j - done.length with
      | zero => rw [hd] at hj; simp at hj; exact .inr ⟨by omega, hj.symm⟩
      | succ k => rw [hd] at hj; simp at hj
  refine ⟨fun i r1 n hi hn => ?_, fun i r1 n hi hn j r' hj hji => ?_, fun n h1 h2 h3 j r' hj => ?_⟩
  · rcases hget i r1 hi with ⟨_, hi'⟩ | ⟨_, rfl⟩
    · obtain ⟨a1, a2, a3⟩ := h.A i r1 n hi' hn; exact ⟨a1, by omega, a3⟩
    · rcases hnw with h0 | ⟨h0, h1, h2⟩
      · rw [h0] at hn; cases hn
      · rw [h0] at hn; cases hn; exact ⟨hLn, by omega, h2⟩
  · rcases hget i r1 hi with ⟨hil, hi'⟩ | ⟨hi', rfl⟩
    · obtain ⟨a1, a2, a3⟩ := h.A i r1 n hi' hn
      rcases hget j r' hj with ⟨_, hj'⟩ | ⟨hj', rfl⟩
      · exact h.B i r1 n hi' hn j r' hj' hji
      · rcases hm n a1 a3 with h0 | ⟨h0, _⟩
        · exact .inl h0
        · exact .inr ⟨by omega, h0⟩
    · rcases hget j r' hj with ⟨_, hj'⟩ | ⟨hj', rfl⟩
      · rcases hnw with h0 | ⟨h0, h1, h2⟩
        · rw [h0] at hn; cases hn
        · rw [h0] at hn; cases hn
          exact .inl (h.Cc nn hLn (Nat.le_refl _) h2 j r' hj')
      · omega
  · rcases hget j r' hj with ⟨_, hj'⟩ | ⟨_, rfl⟩
    · exact h.Cc n h1 (by omega) h3 j r' hj'
    · rcases hm n h1 h3 with h0 | ⟨_, h0⟩
      · exact h0
      · omega

theorem does_step {C : Ctx} {S : St} {o : Oper} {ι : Names'} {a : Act} {w : World} {x : AV} {h' : List Blk} (hnd : ∀ c, o.op ≠ .defer c) (hd : Does C.P a.eval o C.wc C.ok0 C.fp ι S.hp w x h') {Q : Exit → Act → World → Prop} {next : Act → World → Prop}
    (hnext : ∀ v ι' w', Rel C.wc C.ok0 C.fp ι' h' w' → Keeps w (okN C.wc C.ok0 ι S.hp) w' (okN C.wc C.ok0 ι' h') → Carried id ι ι' → Den w' (okN C.wc C.ok0 ι' h') ι' x v → next (a.put o.dst v) w') : o.wpIn C.F C.n C.P a w next Q := by
  obtain ⟨v, w', ι', hrun, hr, hk, hc, hden⟩ := hd
  refine ⟨fun f _ => C.hF f, ?_⟩
  rw [Oper.semAt_eq _ _ _ hnd]
  rcases hrun with hrun | ⟨hrun, rfl⟩ <;> rw [hrun]
  · exact hnext _ _ _ hr hk hc hden
  · exact hnext _ _ _ hr hk hc hden

theorem setAll_same {ρ : Nat → Nat} : ∀ {σ : List Nat} {fs h : List Blk}, (∀ (j n : Nat) (b : Blk), σ[j]? = some n → fs[j]? = some b → h[n]? = some (b.ren ρ)) → setAll ρ σ fs h = h
  | [], _, _, _ => by simp [setAll]
  | _ :: _, [], _, _ => by simp [setAll]
  | n :: σ, b :: fs, h, hh => by
    have h0 := hh 0 n b rfl rfl
    have hs : h.set n (b.ren ρ) = h := by
      apply List.ext_getElem?
      intro i
      rw [List.getElem?_set]
      by_cases e : n = i
      · subst e
        rw [if_pos rfl, if_pos (List.getElem?_eq_some_iff.1 h0).1, h0]
      · rw [if_neg e]
    simp only [setAll, hs]
    exact setAll_same fun j m c hj hc => hh (j + 1) m c (by simpa using hj) (by simpa using hc)
theorem upsOf_mem {ρ : Nat → Nat} : ∀ {σ : List Nat} {fs : List Blk} {u : Nat × Blk}, u ∈ upsOf ρ σ fs → u.2 ∈ fs.map (Blk.ren ρ)
  | [], _, u, h => by simp [upsOf] at h
  | _ :: _, [], u, h => by simp [upsOf] at h
  | n :: σ, b :: fs, u, h => by
    simp only [upsOf, List.mem_cons] at h
    rcases h with rfl | h
    · simp
    · simp only [List.map_cons, List.mem_cons]; exact .inr (upsOf_mem h)

theorem drun_sound {C : Ctx} {ops : Array Oper} {k : Kont} {J : Nat} {cl : List (Nat × CallR)} {L M : Nat} {E : St → Prop} {S0 : St} (hE : ∀ S, E S → AE C .normal k S) (hpre : M = 0 ∨ (C.ι0.length ≤ L ∧ (∀ s ∈ C.sus, ∀ t, ∀ n, L ≤ n → fr n (gtm s.tm t) = true) ∧ (∀ p ∈ C.pin, p.1 < L))) : ∀ (rest : List Oper) (i nn : Nat) (acc : List (List Loc × List Loc)) (S : St) (done : List DRec), Recs C ops S0 done S → NwInv L M nn done → L ≤ nn → done.length = i →
    acc.reverse = done.map (fun r => (r.R, r.W)) → ops.toList.drop i = rest → drun C ops k J cl L M E i rest nn acc S →
    ∃ recs S' nn', Recs C ops S0 recs S' ∧ okDraw ops J (recs.map fun r => (r.R, r.W)) = true ∧ AOps C ops (ops.toList.drop J) k S' ∧ NwInv L M nn' recs
  | [], i, nn, acc, S, done, hrec, hnw, hLn, hi, hacc, hdrop, h => by
    simp only [drun] at h
    obtain ⟨h0, h1, h2⟩ := h
    exact ⟨done, S, nn, hrec, by rw [← hacc]; exact h1, by rw [← h0, hdrop]; exact AOps_nil (hE S h2), hnw⟩
  | o :: rest, i, nn, acc, S, done, hrec, hnw, hLn, hi, hacc, hdrop, h => by
    have hlt : i < ops.toList.length := by
      rcases Nat.lt_or_ge i ops.toList.length with h1 | h1
      · exact h1
      · rw [List.drop_eq_nil_of_le h1] at hdrop; cases hdrop
    rw [List.drop_eq_getElem_cons hlt] at hdrop
    have ho : ops[i]? = some o := by
      have : ops.toList[i] = o := by injection hdrop
      rw [← this]; simp [Array.getElem?_eq_getElem (show i < ops.size by simpa using hlt)]
    have hdrop' : ops.toList.drop (i + 1) = rest := by injection hdrop
    simp only [drun] at h
    have hdrop0 : ops.toList.drop i = o :: rest := by
      rw [List.drop_eq_getElem_cons hlt, hdrop']; congr 1; injection hdrop
    split at h
    · rename_i hJ
      exact ⟨done, S, nn, hrec, by rw [← hacc]; exact h.1, by rw [← hJ, hdrop0]; exact run_sound hE _ _ h.2, hnw⟩
    split at h
    · exact h.elim
    · rename_i pc hroad
      -- what is left: one record more
      have go : ∀ (r : DRec) (nn' : Nat) (S1 : St) (acc1 : List Loc × List Loc), DStep C ops i r S → r.app S = S1 → acc1 = (r.R, r.W) → NwInv L M nn' (done ++ [r]) → nn ≤ nn' → drun C ops k J cl L M E (i + 1) rest nn' (acc1 :: acc) S1 →
          ∃ recs S' nn', Recs C ops S0 recs S' ∧ okDraw ops J (recs.map fun r => (r.R, r.W)) = true ∧ AOps C ops (ops.toList.drop J) k S' ∧ NwInv L M nn' recs := by
        intro r nn' S1 acc1 hs happ hacc1 hn' hle hrun
        subst happ; subst hacc1
        exact drun_sound hE hpre rest (i + 1) nn' _ _ (done ++ [r]) (hrec.snoc (by rw [hi]; exact hs)) hn' (by omega) (by simp [hi]) (by simp [hacc]) hdrop' hrun
      have hgd : ∀ (n : Nat) (y : AV), fr n (gdw o pc y) = fr n y := by intro n y; unfold gdw; split <;> rfl
      have men : ∀ {y : AV} {bs : List Blk} {R : List Loc} {nn' : Nat}, ltAll nn' (mntN L M y bs) = true → (∀ n ∈ mntN L M y bs, Loc.f n ∈ R) → ∀ n, L ≤ n → n < L + M → (fr n y = true ∧ mntN.frBs n bs = true) ∨ (Loc.f n ∈ R ∧ n < nn') := by
        intro y bs R nn' hlt' hR n h1 h2
        by_cases hm : n ∈ mntN L M y bs
        · exact .inr ⟨hR n hm, ltAll_spec hlt' n hm⟩
        · exact .inl (mntN_spec h1 h2 hm)
      split at h
      · -- a call
        rename_i a as tys hop
        split at h
        · rename_i f fs cs hf
          split at h
          · rename_i q hq
            obtain ⟨hdst, hA, hargs, hneeds, hl1, hl2, hro, hnd, hfpa, hσ, hmn, hrun⟩ := h
            refine go ⟨o.dst, gdw o pc (q.r.ren (out q.σ S.hp.length)), opLocs o.op.operands.toList ++ guardLoc ops.toList o ++ q.σ.map .b ++ (mntN L M (q.r.ren (out q.σ S.hp.length)) (q.fp'.map (Blk.ren (out q.σ S.hp.length)))).map .f, upsOf (out q.σ S.hp.length) q.σ q.fp', none⟩ nn _ _ ?_ ?_ ?_ ?_ (Nat.le_refl _) hrun
            · refine dstep_of ho hroad hdst (fun ℓ hℓ => by simp [hℓ]) ?_ ?_
              · rcases hσ with h1 | h1
                · left; rw [h1]; rfl
                · exact .inr h1
              · intro hpc S' hlen hag ι ac w hh Q next hnext
                have hev : ∀ x ∈ o.op.operands.toList, S'.ev x = S.ev x := fun x hx => St.ev_agree fun t ht => hag _ (by simp only [List.mem_append]; exact .inl (.inl (.inl (opLocs_mem (ht ▸ hx)))))
                have hmem : a ∈ o.op.operands.toList := by rw [hop]; simp [Op.operands, Call.operands]
                have hmems : ∀ x ∈ as.toList, x ∈ o.op.operands.toList := fun x hx => by rw [hop]; simp only [Op.operands, Call.operands]; simp; exact .inr (by simpa using hx)
                have hn' : needs true S'.ev o.op.operands.toList := needs_agree (fun ℓ hℓ => hag ℓ (by simp [hℓ])) (by rw [← hpc]; exact hneeds)
                classical
                have hmap : as.toList.map (fun x => if x ∈ o.op.operands.toList then strip (S'.ev x) else S'.ev x) = as.toList.map (fun x => strip (S.ev x)) :=
                  List.map_congr_left fun x hx => by rw [if_pos (hmems x hx), hev x (hmems x hx)]
                refine step_call (fs := fs) (cs := cs) q.σ hh (fun x => if x ∈ o.op.operands.toList then strip (S'.ev x) else S'.ev x) (fun x => ?_) hop (by simp only [if_pos hmem, hev a hmem, hf]) hdst (hA hpc) (by rw [hmap, hlen]; exact hargs hpc) hl1
                  (fun j n b hj hb => ?_) hnd (by omega) ?_
                · split
                  · rename_i hx; exact strip_den (needs_all hn' x hx) rfl (hh.ev x)
                  · exact hh.ev x
                · have := fpAt_get hfpa j n b hj hb
                  rw [hlen]
                  refine ⟨?_, this.2⟩
                  have hb' : S'.hp[n]? = S.hp[n]? := hag (.b n) (by simp only [List.mem_append, List.mem_map]; exact .inl (.inr ⟨n, List.mem_of_getElem? hj, rfl⟩))
                  rw [hb']; exact this.1
                · intro v ι' w' h1 h2 h3 h4
                  have hp : patch q.σ S'.hp.length S'.hp q.post = setUps (upsOf (out q.σ S.hp.length) q.σ q.fp') S'.hp := by
                    rw [setUps_of, hlen]; unfold patch
                    rw [List.drop_of_length_le (by omega)]
                    simp only [List.map_nil, List.append_nil]
                    unfold CallR.post
                    unfold CallR.ro at hro
                    split
                    · rename_i hfe
                      rw [hfe] at hro ⊢
                      simp only at hro
                      have hsame := setAll_same (ρ := out q.σ S.hp.length) (σ := q.σ) (fs := q.fp) (h := S'.hp) fun j n b hj hb => by
                        have hb' : S'.hp[n]? = S.hp[n]? := hag (.b n) (by simp only [List.mem_append, List.mem_map]; exact .inl (.inr ⟨n, List.mem_of_getElem? hj, rfl⟩))
                        rw [hb', (fpAt_get hfpa j n b hj hb).1]
                        have := congrArg (·[j]?) hro
                        simp only [List.getElem?_map, hb, Option.map_some] at this
                        exact this
                      rw [hsame]
                      cases q.σ <;> rfl
                    · rename_i b l hfe
                      rw [hfe]
                  rw [hp] at h1 h2 h4
                  rw [hlen] at h4
                  exact hnext v ι' w' h1 h2 h3 h4
            · simp only [DRec.app, setUps_of]
            · have hup : (upsOf (out q.σ S.hp.length) q.σ q.fp').map (fun u => Loc.b u.1) = q.wr.map .b := by
                unfold CallR.wr
                unfold CallR.post at hl2
                split
                · rename_i hfe; rw [hfe]; cases q.σ <;> rfl
                · rename_i b l hfe
                  rw [hfe] at hl2 ⊢
                  exact upsOf_names _ _ _ hl2
              simp only [DRec.W]; rw [hup, List.append_nil]; cases o.dst <;> rfl
            · refine hnw.snoc (Nat.le_refl _) hLn (.inl rfl) fun n h1 h2 => ?_
              rcases men hmn (R := opLocs o.op.operands.toList ++ guardLoc ops.toList o ++ q.σ.map .b ++ (mntN L M (q.r.ren (out q.σ S.hp.length)) (q.fp'.map (Blk.ren (out q.σ S.hp.length)))).map .f) (fun n hn => List.mem_append_right _ (List.mem_map_of_mem hn)) n h1 h2 with ⟨h3, h4⟩ | h3
              · refine .inl ⟨by simp only [hgd]; exact h3, fun u hu T cs e => ?_⟩
                exact frBs_mem h4 u.2 (upsOf_mem hu) T cs e
              · exact .inr h3
          · exact h.elim
        · exact h.elim
      · -- a store
        rename_i t a y hop
        split at h
        · rename_i hg
          split at h
          · rename_i I hI
            split at h
            · rename_i vs hvs
              split at h
              · rename_i n b p hst
                obtain ⟨hdst, hp, hmn, hrun⟩ := h
                have hpc := road_none hg hroad
                refine go ⟨o.dst, gdw o pc .any, opLocs o.op.operands.toList ++ [.b n] ++ (mntN L M .any [b]).map .f, [(n, b)], none⟩ nn _ _ ?_ ?_ (by simp only [DRec.W, List.append_nil]; rfl) ?_ (Nat.le_refl _) hrun
                · refine dstep_of ho hroad hdst (fun ℓ hℓ => by simp [guardLoc, hg] at hℓ) (.inr (road_none hg hroad)) ?_
                  intro _ S' hlen hag ι ac w hh Q next hnext
                  have hev : ∀ x ∈ o.op.operands.toList, S'.ev x = S.ev x := fun x hx => St.ev_agree fun t ht => hag _ (by simp only [List.mem_append]; exact .inl (.inl (opLocs_mem (ht ▸ hx))))
                  have ea := hev a (by rw [hop]; simp [Op.operands])
                  have ey := hev y (by rw [hop]; simp [Op.operands])
                  have hst' : storeN S'.hp I (S'.ev a) vs = some (n, b, p) := by
                    rw [ea]
                    have hn : S'.hp[n]? = S.hp[n]? := hag (.b n) (by simp)
                    cases he : S.ev a <;> rw [he] at hst <;> simp only [storeN, reduceCtorEq] at hst ⊢
                    case ptr m o' =>
                      have : m = n := by
                        split at hst
                        · simp only [Option.some.injEq, Prod.mk.injEq] at hst; exact hst.1
                        · cases hst
                      subst this; rw [hn]; exact hst
                    case rptr m q' i' j' =>
                      have : m = n := by
                        split at hst
                        · split at hst
                          · simp only [Option.some.injEq, Prod.mk.injEq] at hst; exact hst.1
                          · cases hst
                        · cases hst
                      subst this; rw [hn]; exact hst
                  refine does_step (S := S') (by intro c e; rw [hop] at e; cases e) (does_store hop hI hh.rel (hh.ev a) (hh.ev y) (by rw [ey]; exact hvs) (storeN_A hst') hp) ?_
                  intro v ι' w' h1 h2 h3 h4
                  exact hnext v ι' w' h1 h2 h3 h4
                · simp only [DRec.app, setUps]
                  unfold gdw; rw [hg]
                · refine hnw.snoc (Nat.le_refl _) hLn (.inl rfl) fun n' h1 h2 => ?_
                  rcases men hmn (R := opLocs o.op.operands.toList ++ [.b n] ++ (mntN L M .any [b]).map .f) (fun n hn => List.mem_append_right _ (List.mem_map_of_mem hn)) n' h1 h2 with ⟨h3, h4⟩ | h3
                  · refine .inl ⟨by simp only [hgd]; exact h3, fun u hu T cs e => ?_⟩
                    simp only [List.mem_singleton] at hu
                    subst hu
                    exact frBs_mem h4 b (by simp) T cs e
                  · exact .inr h3
              · exact h.elim
            · exact h.elim
          · exact h.elim
        · exact h.elim
      · -- a quiet one
        rename_i op hnc hns
        split at h
        · exact h.elim
        · rename_i hcall
          have hnd : ∀ c, o.op ≠ .defer c := by intro c e; rw [e] at hcall; simp [isCall] at hcall
          split at h
          · rename_i x p hq
            obtain ⟨hdst, hp, hmn, hrun⟩ := h
            refine go ⟨o.dst, gdw o pc x, opLocs o.op.operands.toList ++ guardLoc ops.toList o ++ tchA S.ev o.op ++ (mntN L M x []).map .f, [], none⟩ nn _ _ ?_ (by simp only [DRec.app, setUps]) (by unfold DRec.W; cases o.dst <;> rfl) (hnw.snoc (Nat.le_refl _) hLn (.inl rfl) fun n' h1 h2 => by
              rcases men hmn (R := opLocs o.op.operands.toList ++ guardLoc ops.toList o ++ tchA S.ev o.op ++ (mntN L M x []).map .f) (fun n hn => List.mem_append_right _ (List.mem_map_of_mem hn)) n' h1 h2 with ⟨h3, h4⟩ | h3
              · exact .inl ⟨by simp only [hgd]; exact h3, fun u hu => by simp at hu⟩
              · exact .inr h3) (Nat.le_refl _) hrun
            refine dstep_of ho hroad hdst (fun ℓ hℓ => by simp [hℓ]) (.inl rfl) ?_
            intro hpc S' hlen hag ι ac w hh Q next hnext
            have hag' : ∀ ℓ ∈ opLocs o.op.operands.toList ++ tchA S.ev o.op, S'.agree S ℓ := fun ℓ hℓ => hag ℓ (by
              rcases List.mem_append.1 hℓ with h1 | h1 <;> simp [h1])
            split at hq
            · rename_i hg
              have hq' := quiet_agree (P := C.P) hag'
              exact does_step (S := S') hnd (does_quiet S'.ev hh.ev hh.rel (by rw [hq']; exact hq) hp) hnext
            · rename_i g hg
              obtain ⟨p', hq', hp'⟩ := quietG_agree (P := C.P) hag' hq hp
              rw [hpc] at hq'
              exact does_step (S := S') hnd (does_quietG hh.ev hh.rel hq' hp') hnext
          · rename_i hq
            split at h
            · rename_i hg
              split at h
              · rename_i x b p hnew
                obtain ⟨hdst, hp, hlt', hdead, hfb, hmn, hrun⟩ := h
                rcases hpre with h0 | ⟨hp1, hp2, hp3⟩
                · omega
                refine go ⟨o.dst, x, opLocs o.op.operands.toList ++ [.b nn] ++ (mntN L M x [b]).map .f, [(nn, b)], some nn⟩ (nn + 1) _ _ (dstep_new ho hg hnd hdst (by omega) (fun s hs t => hp2 s hs t nn hLn) (fun p hp => by have := hp3 p hp; omega) hnew hp hdead hfb (fun ℓ hℓ => List.mem_append_left _ hℓ)) (by simp only [DRec.app, setUps]) (by simp only [DRec.W]; rfl) (hnw.snoc (by omega) hLn (.inr ⟨rfl, rfl, hlt'⟩) fun n' h1 h2 => ?_) (by omega) hrun
                rcases men hmn (R := opLocs o.op.operands.toList ++ [.b nn] ++ (mntN L M x [b]).map .f) (fun n hn => List.mem_append_right _ (List.mem_map_of_mem hn)) n' h1 h2 with ⟨h3, h4⟩ | h3
                · refine .inl ⟨h3, fun u hu T cs e => ?_⟩
                  simp only [List.mem_singleton] at hu
                  subst hu
                  exact frBs_mem h4 b (by simp) T cs e
                · exact .inr h3
              · exact h.elim
            · exact h.elim

/-- Names laid by. -/
theorem here_more {C : Ctx} {S : St} {ι : Names'} {a : Act} {w : World} (hh : Here C S ι a w) (M : Nat) : Here C ⟨S.tm, S.hp ++ List.replicate M .dead⟩ (ι ++ List.replicate M (0, 0)) a w := by
  have hιl := hh.rel.len
  have hsplit : ∀ (k : Nat) (bc : Nat × Nat) (b : Blk), (ι ++ List.replicate M (0, 0))[k]? = some bc → (S.hp ++ List.replicate M Blk.dead)[k]? = some b → b.live = true → ι[k]? = some bc ∧ S.hp[k]? = some b := by
    intro k bc b h1 h2 hl
    rcases Nat.lt_or_ge k S.hp.length with hlt | hge
    · rw [List.getElem?_append_left hlt] at h2
      rw [List.getElem?_append_left (by omega)] at h1
      exact ⟨h1, h2⟩
    · rw [List.getElem?_append_right hge, List.getElem?_replicate] at h2
      split at h2
      · cases h2; cases hl
      · cases h2
  have hc : Carried id ι (ι ++ List.replicate M (0, 0)) := carried_append _ _
  have hk : Keeps w (okN C.wc C.ok0 ι S.hp) w (okN C.wc C.ok0 (ι ++ List.replicate M (0, 0)) (S.hp ++ List.replicate M .dead)) := by
    intro b hb hlt
    refine ⟨rfl, hb.1, fun k c blk h2 hl h1 => ?_⟩
    obtain ⟨e1, e2⟩ := hsplit k _ _ h1 h2 hl
    exact hb.2 k c blk e2 hl e1
  refine ⟨⟨hh.rel.os, hh.rel.tape, hh.rel.output, hh.rel.size, hh.rel.frame, by simp [hιl], ?_, ?_⟩, fun t => (hh.tm t).keep' hk hc, hh.sz, hh.df, fun n b hb => hc _ _ (hh.pre n b hb), fun s hs t => (hh.sus s hs t).keep' hk hc, fun p hp => let ⟨c, h⟩ := hh.pin p hp; ⟨c, hc _ _ h⟩⟩
  · intro k b c blk h1 h2 hl
    obtain ⟨e1, e2⟩ := hsplit k _ _ h1 h2 hl
    obtain ⟨a1, a2, a3⟩ := hh.rel.own k b c blk e1 e2 hl
    exact ⟨a1, a2, a3.keep hk hc rfl⟩
  · intro k k' b c c' b1 b2 e1 e2 e3 e4 l1 l2
    obtain ⟨f1, f2⟩ := hsplit k _ _ e1 e3 l1
    obtain ⟨g1, g2⟩ := hsplit k' _ _ e2 e4 l2
    exact hh.rel.inj _ _ _ _ _ _ _ f1 g1 f2 g2 l1 l2

/-- What laying names by asks. -/
def drawPre (C : Ctx) (S : St) : Prop := C.ι0.length ≤ S.hp.length ∧ S.tm.all (fun p => sc S.hp.length p.2) = true ∧ scH S.hp.length S.hp = true ∧ susOk S.hp.length C.sus C.pin

/-- A region that draws its order, by its run in the text's order; M names are laid by for the blocks that it makes. -/
theorem AR_draw {C : Ctx} {S : St} {k : Kont} {id : Nat} {ops : Array Oper} {E : St → Prop} (hm : C.P.follows .mixedOrders = true) (J : Nat) (cl : List (Nat × CallR)) (M : Nat) (hpre : M = 0 ∨ drawPre C S) (hE : ∀ S, E S → AE C .normal k S)
    (h : drun C ops k J cl S.hp.length M E 0 ops.toList S.hp.length [] ⟨S.tm, S.hp ++ List.replicate M .dead⟩) : AR C (.region id ops true) k S := by
  intro ι a w hh
  refine wpIn_region_any hm ?_
  obtain ⟨recs, S', nn', hrec, hok, hE', hnw⟩ := drun_sound hE (S0 := ⟨S.tm, S.hp ++ List.replicate M .dead⟩) (by
    rcases hpre with h0 | ⟨h1, h2, h3, h4⟩
    · exact .inl h0
    · exact .inr ⟨h1, fun s hs t n hn => fr_sc hn _ (susOk_tm h4 hs t), fun p hp => susOk_pin h4 hp⟩) ops.toList 0 S.hp.length [] _ [] ⟨rfl, fun i r hr => by simp at hr⟩ ⟨fun i r n hi => by simp at hi, fun i r n hi => by simp at hi, fun n _ _ _ j r hj => by simp at hj⟩ (Nat.le_refl _) rfl rfl rfl h
  have hinit : ∀ (i : Nat) (r : DRec) (n : Nat), recs[i]? = some r → r.nw = some n → FrS n ⟨S.tm, S.hp ++ List.replicate M .dead⟩ := by
    intro i r n hi hn
    obtain ⟨a1, a2, a3⟩ := hnw.A i r n hi hn
    rcases hpre with h0 | ⟨h1, h2, h3, h4⟩
    · omega
    · refine ⟨fun t => fr_sc a1 _ (sc_gtm h2 t), fun k' T cs hk' => ?_⟩
      simp only at hk'
      rcases Nat.lt_or_ge k' S.hp.length with hlt | hge
      · rw [List.getElem?_append_left hlt] at hk'; exact scH_fr a1 h3 k' T cs hk'
      · rw [List.getElem?_append_right hge, List.getElem?_replicate] at hk'
        split at hk' <;> cases hk'
  have hh' : Here C ⟨S.tm, S.hp ++ List.replicate M .dead⟩ (ι ++ List.replicate M (0, 0)) a { w with drawn := w.drawn + 1 } := by
    obtain ⟨h1, h2, h3, h4, h5, h6, h7⟩ := here_more hh M
    obtain ⟨g1, g2⟩ := h1.same (w' := { w with drawn := w.drawn + 1 }) rfl rfl rfl (Nat.le_refl _) (fun _ _ => rfl)
    exact ⟨g1, fun t => (h2 t).keep' g2 (carried_refl _), h3, h4, h5, fun s hs t => (h6 s hs t).keep' g2 (carried_refl _), h7⟩
  have hcount : ∀ n : Nat, ((List.range n).filter fun i => !(Array.replicate ops.size false).getD i false).length ≤ n := fun n => Nat.le_trans (List.length_filter_le _ _) (by simp)
  refine draw_any hok hrec.steps (by rw [hrec.st]; exact hE') hinit hnw.B ops.size (Array.replicate ops.size false) (by simp) (fun i _ => by
      rcases Nat.lt_or_ge i ops.size with h1 | h1
      · simp [Array.getD, h1]
      · simp [Array.getD, Nat.not_lt.2 h1]) ?_ (hcount _) (ι ++ List.replicate M (0, 0)) a _ ?_
  · intro j o hj
    have : (Array.replicate ops.size false).getD j false = false := by
      rcases Nat.lt_or_ge j ops.size with h1 | h1
      · simp [Array.getD, h1]
      · simp [Array.getD, Nat.not_lt.2 h1]
    simp only at hj; rw [this] at hj; cases hj
  · refine here_agree (by rw [foldD_len]) (fun ℓ => ?_) hh'
    have hnone : ∀ (l : List DRec) (i : Nat) (T : St), foldD (fun i => (Array.replicate ops.size false).getD i false) i l T = T := by
      intro l
      induction l with
      | nil => intro i T; rfl
      | cons r l ih =>
        intro i T
        have : (Array.replicate ops.size false).getD i false = false := by
          rcases Nat.lt_or_ge i ops.size with h1 | h1
          · simp [Array.getD, h1]
          · simp [Array.getD, Nat.not_lt.2 h1]
        rw [foldD, ih, this]; rfl
    rw [hnone]; exact agree_refl _ _
end SX
