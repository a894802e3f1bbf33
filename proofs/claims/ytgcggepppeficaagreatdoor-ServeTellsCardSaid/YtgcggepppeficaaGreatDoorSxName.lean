/- SX: a state that says less, under other names. -/
import Derived.Test.YtgcggepppeficaaGreatDoorSxRange
set_option linter.all false
set_option linter.unusedVariables false
set_option linter.unnecessarySimpa false
set_option linter.unusedSimpArgs false
namespace SX
open Go

/-- Name n of the new state is which of the old. -/
def nmOf (ρl : List Nat) (N : Nat) : Nat → Nat := fun n => (ρl[n]?).getD N

def idTo : Nat → Nat → List Nat → Bool
  | _, 0, _ => true
  | k, p + 1, n :: l => (n == k) && idTo (k + 1) p l
  | _, _ + 1, [] => false

def tmOkN (tm : List (Nat × AV)) (ρ : Nat → Nat) : List (Nat × AV) → Prop
  | [] => True
  | (t, x) :: l => Sub (gtm tm t) (x.ren ρ) ∧ tmOkN tm ρ l

def hpOkN (h : List Blk) (ρ : Nat → Nat) : Nat → List Blk → Prop
  | _, [] => True
  | n, .dead :: l => hpOkN h ρ (n + 1) l
  | n, b' :: l => (match h[ρ n]? with | some b => SubB b (b'.ren ρ) | none => False) ∧ hpOkN h ρ (n + 1) l

theorem tmOkN_get {tm : List (Nat × AV)} {ρ : Nat → Nat} : ∀ {l : List (Nat × AV)}, tmOkN tm ρ l → ∀ t, gtm l t = .any ∨ Sub (gtm tm t) ((gtm l t).ren ρ)
  | [], _, t => .inl rfl
  | (s, x) :: l, ⟨h, hs⟩, t => by
    simp only [gtm]
    split
    · rename_i e; subst e; exact .inr h
    · exact tmOkN_get hs t

theorem hpOkN_get {h : List Blk} {ρ : Nat → Nat} : ∀ {l : List Blk} {s : Nat}, hpOkN h ρ s l → ∀ (n : Nat) (b' : Blk), l[n]? = some b' → b' = .dead ∨ ∃ b, h[ρ (s + n)]? = some b ∧ SubB b (b'.ren ρ)
  | [], _, _, n, b', hb => by simp at hb
  | b0 :: l, s, hh, n, b', hb => by
    have hrest : hpOkN h ρ (s + 1) l ∧ (b0 = .dead ∨ ∃ b, h[ρ s]? = some b ∧ SubB b (b0.ren ρ)) := by
      cases b0 with
      | dead => exact ⟨hh, .inl rfl⟩
      | _ =>
        obtain ⟨h1, h2⟩ := hh
        refine ⟨h2, .inr ?_⟩
        split at h1
        · rename_i b hb'; exact ⟨b, hb', h1⟩
        · exact h1.elim
    cases n with
    | zero => simp at hb; subst hb; exact hrest.2
    | succ n =>
      have := hpOkN_get hrest.1 n b' (by simpa using hb)
      rw [show s + 1 + n = s + (n + 1) by omega] at this
      exact this

theorem idTo_get : ∀ {p k : Nat} {l : List Nat}, idTo k p l = true → ∀ n, n < p → l[n]? = some (k + n)
  | 0, _, _, _, n, h => by omega
  | p + 1, k, [], h, n, hn => by simp [idTo] at h
  | p + 1, k, m :: l, h, n, hn => by
    simp only [idTo, Bool.and_eq_true, beq_iff_eq] at h
    cases n with
    | zero => simp [h.1]
    | succ n =>
      have := idTo_get h.2 n (by omega)
      simp only [List.getElem?_cons_succ, this]
      congr 1; omega

theorem weakN {C : Ctx} {S S' : St} (ρl : List Nat) (p : Nat) (hlen : ρl.length = S'.hp.length) (hid : idTo 0 p ρl = true) (hp : C.ι0.length ≤ p) (hsus : susOk p C.sus C.pin) (hnd : ρl.Nodup)
    (htm : tmOkN S.tm (nmOf ρl S.hp.length) S'.tm) (hhp : hpOkN S.hp (nmOf ρl S.hp.length) 0 S'.hp) {ι : Names'} {a : Act} {w : World} (hh : Here C S ι a w) : ∃ ι', Here C S' ι' a w := by
  have hιl := hh.rel.len
  refine ⟨ρl.map fun k => (ι[k]?).getD (0, 0), ?_⟩
  have hgo : ∀ n b, ι[nmOf ρl S.hp.length n]? = some b → (ρl.map fun k => (ι[k]?).getD (0, 0))[n]? = some b := by
    intro n b hb
    unfold nmOf at hb
    cases hn : ρl[n]? with
    | none => rw [hn] at hb; simp only [Option.getD_none] at hb; rw [List.getElem?_eq_none (by omega)] at hb; cases hb
    | some m => rw [hn] at hb; simp only [Option.getD_some] at hb; simp [List.getElem?_map, hn, hb]
  have hback : ∀ (n b c : Nat) (b' : Blk), (ρl.map fun k => (ι[k]?).getD (0, 0))[n]? = some (b, c) → S'.hp[n]? = some b' → b'.live = true → ∃ b0, ι[nmOf ρl S.hp.length n]? = some (b, c) ∧ S.hp[nmOf ρl S.hp.length n]? = some b0 ∧ SubB b0 (b'.ren (nmOf ρl S.hp.length)) ∧ b0.live = true := by
    intro n b c b' hn hb hl
    rcases hpOkN_get hhp n b' hb with h1 | ⟨b0, h1, h2⟩
    · subst h1; cases hl
    · rw [Nat.zero_add] at h1
      refine ⟨b0, ?_, h1, h2, h2.live (by rw [Blk.live_ren]; exact hl)⟩
      have hlt := (List.getElem?_eq_some_iff.1 h1).1
      unfold nmOf at h1 hlt ⊢
      cases hr : ρl[n]? with
      | none => simp [List.getElem?_map, hr] at hn
      | some m =>
        rw [hr] at hlt
        simp only [Option.getD_some] at hlt ⊢
        simp only [List.getElem?_map, hr, Option.map_some, Option.some.injEq] at hn
        rw [List.getElem?_eq_getElem (by omega)] at hn ⊢
        simpa using hn
  have hk : Keeps w (okN C.wc C.ok0 ι S.hp) w (okN C.wc C.ok0 (ρl.map fun k => (ι[k]?).getD (0, 0)) S'.hp) := by
    intro b hb hlt
    refine ⟨rfl, hb.1, fun n c blk hn hl he => ?_⟩
    obtain ⟨b0, h1, h2, _, h4⟩ := hback n b c blk he hn hl
    exact hb.2 _ c b0 h2 h4 h1
  have hlow : ∀ (n : Nat) (b : Nat × Nat), n < p → ι[n]? = some b → (ρl.map fun k => (ι[k]?).getD (0, 0))[n]? = some b := by
    intro n b hn hb
    have := idTo_get hid n hn
    rw [Nat.zero_add] at this
    simp [List.getElem?_map, this, hb]
  refine ⟨⟨hh.rel.os, hh.rel.tape, hh.rel.output, hh.rel.size, hh.rel.frame, by simp [hlen], ?_, ?_⟩, fun t => ?_, hh.sz, hh.df, fun n b hb => ?_, fun s hs t => Den.sc hk hlow _ (susOk_tm hsus hs t) (hh.sus s hs t), fun q hq => let ⟨c, h⟩ := hh.pin q hq; ⟨c, hlow _ _ (susOk_pin hsus hq) h⟩⟩
  · intro n b c blk hn hb hl
    obtain ⟨b0, h1, h2, h3, h4⟩ := hback n b c blk hn hb hl
    obtain ⟨a1, a2, a3⟩ := hh.rel.own _ b c b0 h1 h2 h4
    refine ⟨a1, a2, ?_⟩
    exact BlkAt.unren (ι := ι) (ρ := nmOf ρl S.hp.length) hgo (BlkAt.keep hk (ι := ι) (carried_refl ι) rfl (h3.at a3))
  · intro n n' b c c' blk blk' e1 e2 e3 e4 l1 l2
    obtain ⟨b0, f1, f2, _, f4⟩ := hback n b c blk e1 e3 l1
    obtain ⟨b1, g1, g2, _, g4⟩ := hback n' b c' blk' e2 e4 l2
    have he := hh.rel.inj _ _ _ _ _ _ _ f1 g1 f2 g2 f4 g4
    have hn1 : n < ρl.length := by have := (List.getElem?_eq_some_iff.1 e1).1; simpa using this
    have hn2 : n' < ρl.length := by have := (List.getElem?_eq_some_iff.1 e2).1; simpa using this
    unfold nmOf at he
    rw [List.getElem?_eq_getElem hn1, List.getElem?_eq_getElem hn2] at he
    simp only [Option.getD_some] at he
    exact (List.getElem?_inj hn1 hnd).1 (by rw [List.getElem?_eq_getElem hn1, List.getElem?_eq_getElem hn2, he])
  · rcases tmOkN_get htm t with h1 | h1
    · rw [h1]; trivial
    · exact Den.unren _ hgo ((h1 _ _ _ _ (hh.tm t)).keep' hk (carried_refl _))
  · have := hh.pre n b hb
    simp only [id] at this ⊢
    have hlt := (List.getElem?_eq_some_iff.1 hb).1
    exact hlow n b (by omega) this

/-- A loop, its rounds' states under their own names. -/
theorem loop_n {C : Ctx} {S : St} {b : Kont} {l : List KI} {c : Code} {γ : Type} (I : γ → St) (μ : γ → Nat) (g0 : γ) (ρl : List Nat) (p : Nat) (hlen : ρl.length = (I g0).hp.length) (hid : idTo 0 p ρl = true) (hp : C.ι0.length ≤ p) (hnd : ρl.Nodup)
    (htm : tmOkN S.tm (nmOf ρl S.hp.length) (I g0).tm) (hhp : hpOkN S.hp (nmOf ρl S.hp.length) 0 (I g0).hp)
    (round : ∀ g, exC C (kloop C I μ g (kden C l b)) 400 c [] (I g)) (hsus : susOk p C.sus C.pin := by simp [go_sem]) : AR C (.loop c) (kden C l b) S :=
  loop_ex I μ g0 (fun _ _ _ hh => weakN ρl p hlen hid hp hsus hnd htm hhp hh) round
theorem next_n {C : Ctx} {S : St} {k : Kont} {γ : Type} {I : γ → St} {μ : γ → Nat} {g : γ} (g' : γ) (hlt : μ g' < μ g) (ρl : List Nat) (p : Nat) (hlen : ρl.length = (I g').hp.length) (hid : idTo 0 p ρl = true) (hp : C.ι0.length ≤ p) (hnd : ρl.Nodup)
    (htm : tmOkN S.tm (nmOf ρl S.hp.length) (I g').tm) (hhp : hpOkN S.hp (nmOf ρl S.hp.length) 0 (I g').hp) (hsus : susOk p C.sus C.pin := by simp [go_sem]) :
    AE C .normal (kloop C I μ g k) S := next_ex g' hlt (fun _ _ _ hh => weakN ρl p hlen hid hp hsus hnd htm hhp hh)
/-- A state under other names. -/
theorem name_ex {C : Ctx} {S : St} {k : Kont} {c : Code} (S' : St) (ρl : List Nat) (p : Nat) (hlen : ρl.length = S'.hp.length) (hid : idTo 0 p ρl = true) (hp : C.ι0.length ≤ p) (hnd : ρl.Nodup)
    (htm : tmOkN S.tm (nmOf ρl S.hp.length) S'.tm) (hhp : hpOkN S.hp (nmOf ρl S.hp.length) 0 S'.hp) (h : AR C c k S') (hsus : susOk p C.sus C.pin := by simp [go_sem]) : AR C c k S := by
  intro ι a w hh
  obtain ⟨ι', hh'⟩ := weakN ρl p hlen hid hp hsus hnd htm hhp hh
  exact h ι' a w hh'

attribute [go_sem] nmOf idTo tmOkN hpOkN
end SX
