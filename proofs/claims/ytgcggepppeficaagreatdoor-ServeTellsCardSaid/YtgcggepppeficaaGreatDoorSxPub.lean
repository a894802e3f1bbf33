/- SX: an own slice becomes data, within a function. -/
import Derived.Test.YtgcggepppeficaaGreatDoorSxWeak
set_option linter.all false
set_option linter.unusedVariables false
set_option linter.unnecessarySimpa false
set_option linter.unusedSimpArgs false
namespace SX
open Go

mutual
def pub1 (n m : Nat) (l : List (List AV)) : AV → AV
  | .own k m' o len => if k = n then cellsOfRows m o len l else .own k m' o len
  | .agg cs => .agg (pub1L n m l cs)
  | .tup cs => .tup (pub1L n m l cs)
  | .iface t x => .iface t (pub1 n m l x)
  | x => x
def pub1L (n m : Nat) (l : List (List AV)) : List AV → List AV
  | [] => []
  | c :: cs => pub1 n m l c :: pub1L n m l cs
end
mutual
def pub1V (n m : Nat) (l : List (List AV)) : AV → Prop
  | .own k m' o len => k = n → m' = m ∧ o + len ≤ l.length
  | .agg cs => pub1VL n m l cs
  | .tup cs => pub1VL n m l cs
  | .iface _ x => pub1V n m l x
  | _ => True
def pub1VL (n m : Nat) (l : List (List AV)) : List AV → Prop
  | [] => True
  | c :: cs => pub1V n m l c ∧ pub1VL n m l cs
end

section
variable {w : World} {ok ok' : Nat → Prop} {ι : Names'} {n m b c : Nat} {l : List (List AV)}
mutual
theorem Den.pub1 (hk : Keeps w ok w ok') (hi : ι[n]? = some (b, c)) (hrows : DenRows w ok' m (some ⟨b, 0, none⟩) 0 l) : ∀ (x : AV) {v : Value}, pub1V n m l x → Den w ok ι x v → Den w ok' ι (SX.pub1 n m l x) v
  | .int _ _, _, _, h => h
  | .bool _, _, _, h => h
  | .str _, _, _, h => h
  | .ptr n o, _, _, h => h
  | .rptr n m i j, _, _, h => h
  | .dptr r o, _, _, ⟨b, o', e, hc⟩ => ⟨b, o', e, DenCells.keep hk r hc⟩
  | .xs m l, _, _, ⟨a, cap, e, hl, hr⟩ => ⟨a, cap, e, hl, DenRows.keep hk l hr⟩
  | .own k m' o len, v, hv, hd => by
    simp only [SX.pub1]
    by_cases e : k = n
    · subst e
      rw [if_pos rfl]
      obtain ⟨rfl, h4⟩ := hv rfl
      obtain ⟨b', c', ad, hb, h1, h2, h3⟩ := hd
      rw [hi] at hb; cases hb
      refine ⟨some ⟨b, ad, none⟩, c - o, ?_, ?_, ?_⟩
      · rw [h3]; simp; omega
      · simp; omega
      · by_cases ho : o < c
        · rw [h2 ho]
          have := denRows_take len (denRows_drop o hrows)
          have := denRows_move (k := o) (s := 0) this
          simpa using this
        · have : (l.drop o).take len = [] := by
            have : len = 0 := by omega
            subst this; simp
          rw [this]; trivial
    · rw [if_neg e]; exact hd
  | .nilsl, _, _, h => h
  | .zsl, _, _, h => h
  | .nilptr, _, _, h => h
  | .agg cs, _, hv, ⟨vs, e, h⟩ => ⟨vs, e, DenL.pub1 hk hi hrows cs hv h⟩
  | .tup cs, _, hv, ⟨vs, e, h⟩ => ⟨vs, e, DenL.pub1 hk hi hrows cs hv h⟩
  | .func fn fs cs, v, _, h => (show Den w ok ι (.func fn fs cs) v from h).keep' hk (carried_refl _)
  | .nilfunc, _, _, h => h
  | .iface _ x, _, hv, ⟨u, e, h⟩ => ⟨u, e, Den.pub1 hk hi hrows x hv h⟩
  | .niliface, _, _, h => h
  | .gd q x, v, _, h => (show Den w ok ι (.gd q x) v from h).keep' hk (carried_refl _)
  | .any, _, _, h => h
theorem DenL.pub1 (hk : Keeps w ok w ok') (hi : ι[n]? = some (b, c)) (hrows : DenRows w ok' m (some ⟨b, 0, none⟩) 0 l) : ∀ (cs : List AV) {vs : List Value}, pub1VL n m l cs → DenL w ok ι cs vs → DenL w ok' ι (pub1L n m l cs) vs
  | [], _, _, h => h
  | c :: cs, _, ⟨hv, hv'⟩, ⟨v, vs', e, h, h'⟩ => ⟨v, vs', e, Den.pub1 hk hi hrows c hv h, DenL.pub1 hk hi hrows cs hv' h'⟩
end
end

def Blk.pub1 (n m : Nat) (l : List (List AV)) : Blk → Blk
  | .box T cs => .box T (pub1L n m l cs)
  | b => b
def Blk.pub1V (n m : Nat) (l : List (List AV)) : Blk → Prop
  | .box _ cs => pub1VL n m l cs
  | _ => True
theorem Blk.pub1_live {n m : Nat} {l : List (List AV)} (b : Blk) : (b.pub1 n m l).live = b.live := by cases b <;> rfl
def tmPubV (n m : Nat) (l : List (List AV)) : List (Nat × AV) → Prop
  | [] => True
  | p :: r => pub1V n m l p.2 ∧ tmPubV n m l r
def hpPubV (n m : Nat) (l : List (List AV)) : List Blk → Prop
  | [] => True
  | b :: r => b.pub1V n m l ∧ hpPubV n m l r
def pubTm (n m : Nat) (l : List (List AV)) : List (Nat × AV) → List (Nat × AV)
  | [] => []
  | p :: r => (p.1, pub1 n m l p.2) :: pubTm n m l r
def pubHp (n m : Nat) (l : List (List AV)) : List Blk → List Blk
  | [] => []
  | b :: r => b.pub1 n m l :: pubHp n m l r
theorem pubHp_eq (n m : Nat) (l : List (List AV)) : ∀ h, pubHp n m l h = h.map (Blk.pub1 n m l)
  | [] => rfl
  | b :: r => by simp only [pubHp, List.map_cons, pubHp_eq n m l r]
theorem gtm_pub {n m : Nat} {l : List (List AV)} : ∀ (tm : List (Nat × AV)) (t : Nat), gtm (pubTm n m l tm) t = pub1 n m l (gtm tm t)
  | [], t => rfl
  | (s, x) :: r, t => by simp only [pubTm, gtm]; split; rfl; exact gtm_pub r t
theorem tmPubV_get {n m : Nat} {l : List (List AV)} : ∀ (tm : List (Nat × AV)), tmPubV n m l tm → ∀ t, pub1V n m l (gtm tm t)
  | [], _, t => trivial
  | (s, x) :: r, ⟨h1, h2⟩, t => by simp only [gtm]; split; exact h1; exact tmPubV_get r h2 t
theorem hpPubV_get {n m : Nat} {l : List (List AV)} : ∀ (h : List Blk), hpPubV n m l h → ∀ (k : Nat) (b : Blk), h[k]? = some b → b.pub1V n m l
  | [], _, k, b, hb => by simp at hb
  | b' :: r, ⟨h1, h2⟩, 0, b, hb => by simp at hb; subst hb; exact h1
  | b' :: r, ⟨h1, h2⟩, k + 1, b, hb => hpPubV_get r h2 k b (by simpa using hb)

theorem Here.pub1 {C : Ctx} {S : St} {ι : Names'} {a : Act} {w : World} (hh : Here C S ι a w) {n e m fl : Nat} {l : List (List AV)} (hn : S.hp[n]? = some (.rows e m fl l)) (hp : C.ι0.length ≤ n) (hlive : livesTo S.hp C.ι0.length)
    (htm : tmPubV n m l S.tm) (hhp : hpPubV n m l S.hp) : Here C ⟨pubTm n m l S.tm, pubHp n m l (S.hp.set n .dead)⟩ ι a w := by
  have hnl : n < S.hp.length := (List.getElem?_eq_some_iff.1 hn).1
  obtain ⟨b, c, hi⟩ : ∃ b c, ι[n]? = some (b, c) := by
    have : n < ι.length := by rw [hh.rel.len]; exact hnl
    exact ⟨_, _, List.getElem?_eq_getElem this⟩
  obtain ⟨hr1, hk1⟩ := hh.rel.drop n
  obtain ⟨a1, a2, a3⟩ := hh.rel.own n b c _ hi hn rfl
  obtain ⟨g1, g2⟩ := reads_cells a3
  obtain ⟨cells, fz, us, _, _, _, _, _, _, _, _, hones⟩ := a3
  rw [pubHp_eq]
  have hget : ∀ (k : Nat) (blk : Blk), ((S.hp.set n .dead).map (Blk.pub1 n m l))[k]? = some blk → blk.live = true → ∃ b0, (S.hp.set n .dead)[k]? = some b0 ∧ blk = b0.pub1 n m l ∧ b0.live = true ∧ S.hp[k]? = some b0 := by
    intro k blk hk hl
    rw [List.getElem?_map, Option.map_eq_some_iff] at hk
    obtain ⟨b0, h1, rfl⟩ := hk
    rw [Blk.pub1_live] at hl
    refine ⟨b0, h1, rfl, hl, ?_⟩
    rw [List.getElem?_set] at h1
    split at h1
    · cases h1; cases hl
    · exact h1
  have hk2 : Keeps w (okN C.wc C.ok0 ι (S.hp.set n .dead)) w (okN C.wc C.ok0 ι ((S.hp.set n .dead).map (Blk.pub1 n m l))) := by
    rintro q ⟨q1, q2⟩ _
    refine ⟨rfl, q1, fun k c' blk hk hl he => ?_⟩
    obtain ⟨b0, h1, _, h3, _⟩ := hget k blk hk hl
    exact q2 k c' b0 h1 h3 he
  have hk : Keeps w (okN C.wc C.ok0 ι S.hp) w (okN C.wc C.ok0 ι ((S.hp.set n .dead).map (Blk.pub1 n m l))) := fun q hq hlt =>
    let ⟨_, h2⟩ := hk1 q hq hlt
    let ⟨_, h4⟩ := hk2 q h2 hlt
    ⟨rfl, h4⟩
  have hbok : okN C.wc C.ok0 ι ((S.hp.set n .dead).map (Blk.pub1 n m l)) b := by
    refine ⟨?_, fun k c' blk hkk hl he => ?_⟩
    · rcases a2 with a2 | a2
      · exact .inr a2
      · exfalso
        obtain ⟨⟨b0, c0⟩, hm1, hm2⟩ := List.mem_map.1 a2
        simp only at hm2; subst hm2
        obtain ⟨j, hj, hje⟩ := List.getElem_of_mem hm1
        obtain ⟨bj, hbj, hlj⟩ := livesTo_get hlive j hj
        have hιj := hh.pre j (b0, c0) (by rw [List.getElem?_eq_getElem hj, hje])
        have := hh.rel.inj _ _ _ _ _ _ _ hi hιj hn hbj rfl hlj
        simp only [id] at this
        omega
    · obtain ⟨b0, h1, _, h3, h4⟩ := hget k blk hkk hl
      have := hh.rel.inj _ _ _ _ _ _ _ hi he hn h4 rfl h3
      subst this
      rw [List.getElem?_set_self hnl] at h1
      cases h1; cases h3
  have hrows : DenRows w (okN C.wc C.ok0 ι ((S.hp.set n .dead).map (Blk.pub1 n m l))) m (some ⟨b, 0, none⟩) 0 l := rows_data hbok hk (s := 0) (by simpa using g1) g2 hones
  refine ⟨⟨hr1.os, hr1.tape, hr1.output, hr1.size, hr1.frame, by rw [List.length_map]; exact hr1.len, ?_, ?_⟩, fun t => ?_, hh.sz, hh.df, hh.pre, fun s hs t => (hh.sus s hs t).keep' hk (carried_refl _), hh.pin⟩
  · intro k b' c' blk hb' hblk hl
    obtain ⟨b0, h1, rfl, h3, h4⟩ := hget k blk hblk hl
    obtain ⟨d1, d2, d3⟩ := hh.rel.own k b' c' b0 hb' h4 h3
    refine ⟨d1, d2, ?_⟩
    cases b0 with
    | dead => trivial
    | box T cs =>
      obtain ⟨us', fz', e1, e2, e3⟩ := d3
      exact ⟨us', fz', e1, e2, DenL.pub1 hk hi hrows cs (hpPubV_get _ hhp k _ h4) e3⟩
    | obj ob => exact d3
    | rows e' m' fl' l' => exact BlkAt.keep hk (ι := ι) (carried_refl ι) rfl d3
  · intro k k' b' c' c'' blk1 blk2 e1 e2 e3 e4 l1 l2
    obtain ⟨b0, _, _, h3, h4⟩ := hget k blk1 e3 l1
    obtain ⟨b0', _, _, h3', h4'⟩ := hget k' blk2 e4 l2
    exact hh.rel.inj _ _ _ _ _ _ _ e1 e2 h4 h4' h3 h3'
  · simp only [gtm_pub]
    exact Den.pub1 hk hi hrows _ (tmPubV_get _ htm t) (hh.tm t)

/-- An own slice becomes data, ahead of an operation. -/
theorem pub_op {C : Ctx} {S : St} {b : Kont} {l0 : List KI} {dl : List (Option Tmp)} {rest : List Oper} (n : Nat) {e m fl : Nat} {l : List (List AV)} (hn : S.hp[n]? = some (.rows e m fl l)) (hp : C.ι0.length ≤ n) (hlive : livesTo S.hp C.ι0.length)
    (htm : tmPubV n m l S.tm) (hhp : hpPubV n m l S.hp) (h : ∀ ops', AOpsD C ops' dl rest (kden C l0 b) ⟨pubTm n m l S.tm, pubHp n m l (S.hp.set n .dead)⟩) : ∀ ops', AOpsD C ops' dl rest (kden C l0 b) S :=
  fun ops' hdl ι a w hh => h ops' hdl ι a w (hh.pub1 hn hp hlive htm hhp)
/-- The same, ahead of a piece of code. -/
theorem pub_ex {C : Ctx} {S : St} {k : Kont} {c : Code} (n : Nat) {e m fl : Nat} {l : List (List AV)} (hn : S.hp[n]? = some (.rows e m fl l)) (hp : C.ι0.length ≤ n) (hlive : livesTo S.hp C.ι0.length)
    (htm : tmPubV n m l S.tm) (hhp : hpPubV n m l S.hp) (h : AR C c k ⟨pubTm n m l S.tm, pubHp n m l (S.hp.set n .dead)⟩) : AR C c k S :=
  fun ι a w hh => h ι a w (hh.pub1 hn hp hlive htm hhp)
attribute [go_sem] pub1 pub1L pub1V pub1VL Blk.pub1 Blk.pub1V tmPubV hpPubV pubTm pubHp
end SX
