/- SX: own blocks, the state's relation to a world, and how it is carried over the steps on memory. -/
import Derived.Test.YtgcggepppeficaaGreatDoorSxCore
set_option linter.all false
set_option linter.unusedVariables false
set_option linter.unnecessarySimpa false
set_option linter.unusedSimpArgs false
namespace SX
open Go

/-- An own block (obj: an object that is no cells): a box of cells; rows of data (of elements of type e, m cells each; fl 1: it has no frozen mark, and may grow; fl 2: it has no more room); or none of ours any more. -/
inductive Blk where
  | box (T : TypeId) (cs : List AV)
  | rows (e : TypeId) (m : Nat) (fl : Nat) (l : List (List AV))
  | dead
  | obj (o : Obj)

def Blk.live : Blk → Bool
  | .dead => false
  | _ => true

theorem denL_iff {w : World} {ok : Nat → Prop} {ι : Names'} : ∀ {cs : List AV} {vs : List Value},
    DenL w ok ι cs vs ↔ cs.length = vs.length ∧ ∀ (i : Nat) (x : AV), cs[i]? = some x → ∃ u, vs[i]? = some u ∧ Den w ok ι x u
  | [], vs => by
    simp only [DenL, List.length_nil, List.getElem?_nil, reduceCtorEq, false_implies, implies_true, and_true]
    constructor
    · rintro rfl; rfl
    · intro h; exact List.length_eq_zero_iff.1 h.symm
  | c :: cs, vs => by
    simp only [DenL]
    constructor
    · rintro ⟨v, vs', rfl, h, h'⟩
      obtain ⟨hl, hp⟩ := denL_iff.1 h'
      refine ⟨by simp [hl], fun i x hx => ?_⟩
      cases i with
      | zero => simp at hx; subst hx; exact ⟨v, by simp, h⟩
      | succ i => simp at hx; simpa using hp i x hx
    · rintro ⟨hl, hp⟩
      cases vs with
      | nil => simp at hl
      | cons v vs' =>
        obtain ⟨u, hu, hd⟩ := hp 0 c (by simp)
        simp at hu; subst hu
        refine ⟨v, vs', rfl, hd, denL_iff.2 ⟨by simpa using hl, fun i x hx => ?_⟩⟩
        have := hp (i + 1) x (by simpa using hx)
        simpa using this

/-- What lies in block b, of c rows' room. -/
def BlkAt (w : World) (ok : Nat → Prop) (ι : Names') (b c : Nat) : Blk → Prop
  | .box T cs => ∃ vs fz, w.heap[b]? = some (.cells vs T fz) ∧ (fz.2 ≤ fz.1 ∨ vs.size ≤ fz.1) ∧ DenL w ok ι cs vs.toList
  | .rows e m fl l => ∃ cells fz vs, w.heap[b]? = some (.cells cells e fz) ∧ (fl ≠ 3 → fz.2 ≤ fz.1 ∨ cells.size ≤ fz.1) ∧ ((fl = 1 → fz = (0, 0)) ∧ (fl = 2 → l.length = c)) ∧ cells.size = c * m ∧ c ≤ maxLen ∧
      cells.toList.take vs.length = vs ∧ DenL w ok [] l.flatten vs ∧ (∀ r ∈ l, r.length = m) ∧ l.flatten.all one = true
  | .dead => True
  | .obj o => w.heap[b]? = some o

/-- Which blocks data may lie in: those that were let at first, or new ones; none of the own ones. -/
def okNow (ok0 : Nat → Prop) (B : Nat) (ι : Names') (h : List Blk) : Nat → Prop := fun b =>
  (ok0 b ∨ B ≤ b) ∧ ∀ (n c : Nat) (blk : Blk), h[n]? = some blk → blk.live = true → ι[n]? ≠ some (b, c)

structure Rel (wc : World) (ok0 : Nat → Prop) (fp : List Nat) (ι : Names') (h : List Blk) (w : World) : Prop where
  os : w.os = wc.os
  tape : w.tape = wc.tape
  output : w.output = wc.output
  size : wc.heap.size ≤ w.heap.size
  frame : ∀ b, b < wc.heap.size → b ∉ fp → w.heap[b]? = wc.heap[b]?
  len : ι.length = h.length
  own : ∀ (n b c : Nat) (blk : Blk), ι[n]? = some (b, c) → h[n]? = some blk → blk.live = true →
    b < w.heap.size ∧ (wc.heap.size ≤ b ∨ b ∈ fp) ∧ BlkAt w (okNow ok0 wc.heap.size ι h) ι b c blk
  inj : ∀ (n n' b c c' : Nat) (blk blk' : Blk), ι[n]? = some (b, c) → ι[n']? = some (b, c') → h[n]? = some blk → h[n']? = some blk' → blk.live = true → blk'.live = true → n = n'

section
variable {w w' : World} {ok ok' : Nat → Prop}

theorem Den.keep' (hk : Keeps w ok w' ok') {ι ι' : Names'} {x : AV} {v : Value} (hn : Carried id ι ι') (h : Den w ok ι x v) : Den w' ok' ι' x v := by
  have := Den.keep hk x hn h
  rwa [AV.ren_id] at this
theorem DenL.keep' (hk : Keeps w ok w' ok') {ι ι' : Names'} {x : List AV} {v : List Value} (hn : Carried id ι ι') (h : DenL w ok ι x v) : DenL w' ok' ι' x v := by
  have := DenL.keep hk x hn h
  rwa [AV.renL_id] at this

theorem carried_refl (ι : Names') : Carried id ι ι := fun _ _ h => h
theorem carried_append (ι ι' : Names') : Carried id ι (ι ++ ι') := fun n b h => by
  have hl := (List.getElem?_eq_some_iff.1 h).1
  simp only [id]
  rw [List.getElem?_append_left hl]; exact h
theorem carried_nil (ρ : Nat → Nat) (ι : Names') : Carried ρ [] ι := fun n b h => by simp at h

/-- A block that is as it was. -/
theorem BlkAt.keep (hk : Keeps w ok w' ok') {ι ι' : Names'} (hn : Carried id ι ι') {b c : Nat} {blk : Blk} (hb : w'.heap[b]? = w.heap[b]?) (h : BlkAt w ok ι b c blk) : BlkAt w' ok' ι' b c blk := by
  cases blk with
  | box T cs => obtain ⟨vs, fz, h1, h2, h3⟩ := h; exact ⟨vs, fz, hb.trans h1, h2, h3.keep' hk hn⟩
  | rows e m fl l =>
    obtain ⟨cells, fz, vs, h1, h2, h3, h4, h5, h6, h7, h8⟩ := h
    exact ⟨cells, fz, vs, hb.trans h1, h2, h3, h4, h5, h6, h7.keep' hk (carried_refl _), h8⟩
  | dead => trivial
  | obj o => exact Eq.trans hb h
end

section
variable {wc w : World} {ok0 : Nat → Prop} {fp : List Nat} {ι : Names'} {h : List Blk}

theorem getElem?_push_lt {α : Type} (a : Array α) (x : α) {k : Nat} (hk : k < a.size) : (a.push x)[k]? = a[k]? := by
  rw [Array.getElem?_push, if_neg (by omega)]

/-- A world that differs in new blocks and draws alone. -/
theorem Rel.same (hr : Rel wc ok0 fp ι h w) {w' : World} (h1 : w'.os = w.os) (h2 : w'.tape = w.tape) (h3 : w'.output = w.output) (h4 : w.heap.size ≤ w'.heap.size)
    (h5 : ∀ b, b < w.heap.size → w'.heap[b]? = w.heap[b]?) : Rel wc ok0 fp ι h w' ∧ Keeps w (okNow ok0 wc.heap.size ι h) w' (okNow ok0 wc.heap.size ι h) := by
  have hk : Keeps w (okNow ok0 wc.heap.size ι h) w' (okNow ok0 wc.heap.size ι h) := fun b hb hlt => ⟨h5 b hlt, hb⟩
  refine ⟨⟨h1.trans hr.os, h2.trans hr.tape, h3.trans hr.output, Nat.le_trans hr.size h4, fun b hb hf => (h5 b (Nat.lt_of_lt_of_le hb hr.size)).trans (hr.frame b hb hf), hr.len, ?_, hr.inj⟩, hk⟩
  intro n b c blk hn hh hl
  obtain ⟨a1, a2, a3⟩ := hr.own n b c blk hn hh hl
  exact ⟨Nat.lt_of_lt_of_le a1 h4, a2, a3.keep hk (carried_refl _) (h5 b a1)⟩

theorem Rel.drew (hr : Rel wc ok0 fp ι h w) : Rel wc ok0 fp ι h w.drew := (hr.same (w' := w.drew) rfl rfl rfl (Nat.le_refl _) (fun _ _ => rfl)).1
theorem Rel.drewN (hr : Rel wc ok0 fp ι h w) (n : Nat) : Rel wc ok0 fp ι h { w with drawn := w.drawn + n } := (hr.same (w' := { w with drawn := w.drawn + n }) rfl rfl rfl (Nat.le_refl _) (fun _ _ => rfl)).1

/-- One more own block, which lies beyond all that there was. -/
theorem Rel.more (hr : Rel wc ok0 fp ι h w) {w' : World} {c : Nat} {blk : Blk} (h1 : w'.os = w.os) (h2 : w'.tape = w.tape) (h3 : w'.output = w.output) (h4 : w.heap.size < w'.heap.size)
    (h5 : ∀ b, b < w.heap.size → w'.heap[b]? = w.heap[b]?)
    (hb : BlkAt w' (okNow ok0 wc.heap.size (ι ++ [(w.heap.size, c)]) (h ++ [blk])) (ι ++ [(w.heap.size, c)]) w.heap.size c blk) :
    Rel wc ok0 fp (ι ++ [(w.heap.size, c)]) (h ++ [blk]) w' ∧ Keeps w (okNow ok0 wc.heap.size ι h) w' (okNow ok0 wc.heap.size (ι ++ [(w.heap.size, c)]) (h ++ [blk])) := by
  have hk : Keeps w (okNow ok0 wc.heap.size ι h) w' (okNow ok0 wc.heap.size (ι ++ [(w.heap.size, c)]) (h ++ [blk])) := by
    rintro b ⟨hb1, hb2⟩ hlt
    refine ⟨h5 b hlt, hb1, fun n c' blk' hn hl he => ?_⟩
    rcases Nat.lt_or_ge n h.length with hlt' | hge
    · rw [List.getElem?_append_left hlt'] at hn
      rw [List.getElem?_append_left (by rw [hr.len]; exact hlt')] at he
      exact hb2 n c' blk' hn hl he
    · rw [List.getElem?_append_right (by rw [hr.len]; exact hge), hr.len] at he
      cases hd : n - h.length with
      | zero => rw [hd] at he; simp at he; omega
      | succ k => rw [hd] at he; simp at he
  refine ⟨⟨h1.trans hr.os, h2.trans hr.tape, h3.trans hr.output, by have := hr.size; omega, fun b hb hf => (h5 b (Nat.lt_of_lt_of_le hb hr.size)).trans (hr.frame b hb hf), by simp [hr.len], ?_, ?_⟩, hk⟩
  · intro n b c' blk' hn hh hl
    rcases Nat.lt_or_ge n h.length with hlt' | hge
    · rw [List.getElem?_append_left hlt'] at hh
      rw [List.getElem?_append_left (by rw [hr.len]; exact hlt')] at hn
      obtain ⟨a1, a2, a3⟩ := hr.own n b c' blk' hn hh hl
      exact ⟨by omega, a2, a3.keep hk (carried_append _ _) (h5 b a1)⟩
    · rw [List.getElem?_append_right hge] at hh
      rw [List.getElem?_append_right (by rw [hr.len]; exact hge), hr.len] at hn
      cases hd : n - h.length with
      | zero =>
        rw [hd] at hh hn; simp at hh hn
        obtain ⟨rfl, rfl⟩ := hn
        subst hh
        exact ⟨h4, Or.inl hr.size, hb⟩
      | succ k => rw [hd] at hh; simp at hh
  · intro n n' b c' c'' blk' blk'' e1 e2 e3 e4 l1 l2
    rcases Nat.lt_or_ge n h.length with a | a <;> rcases Nat.lt_or_ge n' h.length with a' | a'
    · rw [List.getElem?_append_left a] at e3; rw [List.getElem?_append_left a'] at e4
      rw [List.getElem?_append_left (by rw [hr.len]; exact a)] at e1; rw [List.getElem?_append_left (by rw [hr.len]; exact a')] at e2
      exact hr.inj _ _ _ _ _ _ _ e1 e2 e3 e4 l1 l2
    · rw [List.getElem?_append_left a] at e3
      rw [List.getElem?_append_left (by rw [hr.len]; exact a)] at e1
      rw [List.getElem?_append_right (by rw [hr.len]; exact a'), hr.len] at e2
      have := (hr.own _ _ _ _ e1 e3 l1).1
      cases hd : n' - h.length with
      | zero => rw [hd] at e2; simp at e2; omega
      | succ k => rw [hd] at e2; simp at e2
    · rw [List.getElem?_append_left a'] at e4
      rw [List.getElem?_append_left (by rw [hr.len]; exact a')] at e2
      rw [List.getElem?_append_right (by rw [hr.len]; exact a), hr.len] at e1
      have := (hr.own _ _ _ _ e2 e4 l2).1
      cases hd : n - h.length with
      | zero => rw [hd] at e1; simp at e1; omega
      | succ k => rw [hd] at e1; simp at e1
    · rw [List.getElem?_append_right (by rw [hr.len]; exact a), hr.len] at e1
      rw [List.getElem?_append_right (by rw [hr.len]; exact a'), hr.len] at e2
      have : n - h.length = 0 := by
        cases hd : n - h.length with
        | zero => rfl
        | succ k => rw [hd] at e1; simp at e1
      have : n' - h.length = 0 := by
        cases hd : n' - h.length with
        | zero => rfl
        | succ k => rw [hd] at e2; simp at e2
      omega

/-- An own block turns. -/
theorem Rel.turn (hr : Rel wc ok0 fp ι h w) {w' : World} {n b c : Nat} {blk blk' : Blk} (hn : ι[n]? = some (b, c)) (hh : h[n]? = some blk) (hl : blk.live = true) (hl' : blk'.live = true)
    (h1 : w'.os = w.os) (h2 : w'.tape = w.tape) (h3 : w'.output = w.output) (h4 : w'.heap.size = w.heap.size) (h5 : ∀ k, k ≠ b → w'.heap[k]? = w.heap[k]?)
    (hb : Keeps w (okNow ok0 wc.heap.size ι h) w' (okNow ok0 wc.heap.size ι (h.set n blk')) → BlkAt w' (okNow ok0 wc.heap.size ι (h.set n blk')) ι b c blk') :
    Rel wc ok0 fp ι (h.set n blk') w' ∧ Keeps w (okNow ok0 wc.heap.size ι h) w' (okNow ok0 wc.heap.size ι (h.set n blk')) := by
  obtain ⟨a1, a2, a3⟩ := hr.own n b c blk hn hh hl
  have hlt : n < h.length := (List.getElem?_eq_some_iff.1 hh).1
  have hk : Keeps w (okNow ok0 wc.heap.size ι h) w' (okNow ok0 wc.heap.size ι (h.set n blk')) := by
    rintro k ⟨k1, k2⟩ klt
    refine ⟨h5 k (fun e => k2 n c blk hh hl (by rw [e]; exact hn)), k1, fun m c' blk1 hm hml he => ?_⟩
    by_cases e : m = n
    · subst e; exact k2 m c' blk hh hl he
    · rw [List.getElem?_set_ne (by omega)] at hm; exact k2 m c' blk1 hm hml he
  refine ⟨⟨h1.trans hr.os, h2.trans hr.tape, h3.trans hr.output, by rw [h4]; exact hr.size, fun k hk1 hf => ?_, by simp [hr.len], ?_, ?_⟩, hk⟩
  · refine (h5 k ?_).trans (hr.frame k hk1 hf)
    rintro rfl
    rcases a2 with a2 | a2
    · omega
    · exact hf a2
  · intro m b' c' blk1 hm hh1 hl1
    by_cases e : m = n
    · subst e
      rw [hn] at hm; simp at hm; obtain ⟨rfl, rfl⟩ := hm
      rw [List.getElem?_set_self hlt] at hh1; simp at hh1; subst hh1
      exact ⟨by omega, a2, hb hk⟩
    · rw [List.getElem?_set_ne (by omega)] at hh1
      obtain ⟨d1, d2, d3⟩ := hr.own m b' c' blk1 hm hh1 hl1
      refine ⟨by omega, d2, d3.keep hk (carried_refl _) (h5 b' ?_)⟩
      rintro rfl
      exact e (hr.inj _ _ _ _ _ _ _ hm hn hh1 hh hl1 hl)
  · intro m m' b' c' c'' blk1 blk2 e1 e2 e3 e4 l1 l2
    have hx : ∀ (k : Nat) (blk0 : Blk), (h.set n blk')[k]? = some blk0 → blk0.live = true → ∃ blk3, h[k]? = some blk3 ∧ blk3.live = true := by
      intro k blk0 hk0 hl0
      by_cases e : k = n
      · subst e; exact ⟨blk, hh, hl⟩
      · rw [List.getElem?_set_ne (by omega)] at hk0; exact ⟨blk0, hk0, hl0⟩
    obtain ⟨b3, f3, g3⟩ := hx _ _ e3 l1
    obtain ⟨b4, f4, g4⟩ := hx _ _ e4 l2
    exact hr.inj _ _ _ _ _ _ _ e1 e2 f3 f4 g3 g4

/-- An own block is given up. -/
theorem Rel.drop (hr : Rel wc ok0 fp ι h w) (n : Nat) :
    Rel wc ok0 fp ι (h.set n .dead) w ∧ Keeps w (okNow ok0 wc.heap.size ι h) w (okNow ok0 wc.heap.size ι (h.set n .dead)) := by
  have hx : ∀ (k : Nat) (blk0 : Blk), (h.set n .dead)[k]? = some blk0 → blk0.live = true → k ≠ n ∧ h[k]? = some blk0 := by
    intro k blk0 hk0 hl0
    by_cases e : k = n
    · subst e
      rw [List.getElem?_set] at hk0; simp at hk0; obtain ⟨_, rfl⟩ := hk0; cases hl0
    · rw [List.getElem?_set_ne (by omega)] at hk0; exact ⟨e, hk0⟩
  have hk : Keeps w (okNow ok0 wc.heap.size ι h) w (okNow ok0 wc.heap.size ι (h.set n .dead)) :=
    fun k ⟨k1, k2⟩ _ => ⟨rfl, k1, fun m c' blk1 hm hml => k2 m c' blk1 (hx _ _ hm hml).2 hml⟩
  refine ⟨⟨hr.os, hr.tape, hr.output, hr.size, hr.frame, by simp [hr.len], ?_, ?_⟩, hk⟩
  · intro m b' c' blk1 hm hh1 hl1
    obtain ⟨d1, d2, d3⟩ := hr.own m b' c' blk1 hm (hx _ _ hh1 hl1).2 hl1
    exact ⟨d1, d2, d3.keep hk (carried_refl _) rfl⟩
  · intro m m' b' c' c'' blk1 blk2 e1 e2 e3 e4 l1 l2
    exact hr.inj _ _ _ _ _ _ _ e1 e2 (hx _ _ e3 l1).2 (hx _ _ e4 l2).2 l1 l2
end
end SX
