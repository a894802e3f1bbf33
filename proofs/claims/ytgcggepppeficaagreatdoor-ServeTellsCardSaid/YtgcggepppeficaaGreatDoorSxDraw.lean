/- SX: a region that draws its order: whatever the order, it comes to what the text's order comes to. -/
import Derived.Test.YtgcggepppeficaaGreatDoorSxExec
import Derived.Test.YtgcggepppeficaaGreatDoorSxNew
import Derived.OrdersIn
set_option linter.all false
set_option linter.unusedVariables false
set_option linter.unnecessarySimpa false
set_option linter.unusedSimpArgs false
namespace SX
open Go

/-- A place: a slot, or an own block; or that a name is new. -/
inductive Loc where
  | t (n : Nat)
  | b (n : Nat)
  | f (n : Nat)
  deriving DecidableEq

/-- What an operation came to, in the text's order: the slot and its value, the blocks turned, the places read. -/
structure DRec where
  dst : Option Tmp
  x : AV
  R : List Loc
  ups : List (Nat × Blk)
  nw : Option Nat := none

def setUps : List (Nat × Blk) → List Blk → List Blk
  | [], h => h
  | (n, b) :: l, h => setUps l (h.set n b)

theorem setUps_length : ∀ (l : List (Nat × Blk)) (h : List Blk), (setUps l h).length = h.length
  | [], h => rfl
  | (n, b) :: l, h => by simp [setUps, setUps_length l]

def DRec.W (r : DRec) : List Loc := (match r.dst with | some d => [.t d] | none => []) ++ r.ups.map (fun u => .b u.1) ++ (match r.nw with | some n => [.f n] | none => [])
def DRec.app (r : DRec) (S : St) : St := ⟨putTm S.tm r.dst r.x, setUps r.ups S.hp⟩

def St.agree (S S' : St) : Loc → Prop
  | .t n => gtm S.tm n = gtm S'.tm n
  | .b n => S.hp[n]? = S'.hp[n]?
  | .f _ => True

theorem setUps_other {n : Nat} : ∀ (l : List (Nat × Blk)) (h : List Blk), n ∉ l.map (·.1) → (setUps l h)[n]? = h[n]?
  | [], h, _ => rfl
  | (m, b) :: l, h, hn => by
    simp only [List.map_cons, List.mem_cons, not_or] at hn
    rw [setUps, setUps_other l _ hn.2, List.getElem?_set_ne (by omega)]
theorem setUps_same {n : Nat} : ∀ (l : List (Nat × Blk)) (h h' : List Blk), h.length = h'.length → n ∈ l.map (·.1) → (setUps l h)[n]? = (setUps l h')[n]?
  | [], h, h', _, hn => by simp at hn
  | (m, b) :: l, h, h', hl, hn => by
    simp only [setUps]
    by_cases hm : n ∈ l.map (·.1)
    · exact setUps_same l _ _ (by simp [hl]) hm
    · simp only [List.map_cons, List.mem_cons] at hn
      have : n = m := by rcases hn with h1 | h1; exact h1; exact absurd h1 hm
      subst this
      rw [setUps_other l _ hm, setUps_other l _ hm, List.getElem?_set, List.getElem?_set]
      simp only [hl, if_true]

theorem DRec.app_other {r : DRec} {S : St} {ℓ : Loc} (h : ℓ ∉ r.W) : (r.app S).agree S ℓ := by
  unfold DRec.W at h
  simp only [List.mem_append, not_or] at h
  replace h := h.1
  cases ℓ with
  | f n => trivial
  | t n =>
    simp only [St.agree, DRec.app]
    cases hd : r.dst with
    | none => rfl
    | some d =>
      rw [hd] at h
      simp only [putTm, gtm]
      rw [if_neg (by intro e; subst e; exact h.1 (by simp))]
  | b n =>
    simp only [St.agree, DRec.app]
    exact setUps_other _ _ (by intro hm; apply h.2; simp only [List.mem_map] at hm ⊢; obtain ⟨u, hu, rfl⟩ := hm; exact ⟨u, hu, rfl⟩)
theorem DRec.app_same {r : DRec} {S S' : St} {ℓ : Loc} (hl : S.hp.length = S'.hp.length) (h : ℓ ∈ r.W) : (r.app S).agree (r.app S') ℓ := by
  unfold DRec.W at h
  simp only [List.mem_append] at h
  cases ℓ with
  | f n => trivial
  | t n =>
    simp only [St.agree, DRec.app]
    replace h := h.resolve_right (by cases r.nw <;> simp)
    cases hd : r.dst with
    | none => rw [hd] at h; simp at h
    | some d =>
      rw [hd] at h
      simp at h; subst h
      simp [putTm, gtm]
  | b n =>
    simp only [St.agree, DRec.app]
    refine setUps_same _ _ _ hl ?_
    replace h := h.resolve_right (by cases r.nw <;> simp)
    rcases h with h | h
    · cases hd : r.dst <;> rw [hd] at h <;> simp at h
    · simp only [List.mem_map] at h ⊢
      obtain ⟨u, hu, e⟩ := h
      cases e
      exact ⟨u, hu, rfl⟩

/-- The records that are done, in the text's order. -/
def foldD (D : Nat → Bool) : Nat → List DRec → St → St
  | _, [], S => S
  | i, r :: l, S => foldD D (i + 1) l (if D i then r.app S else S)

theorem app_len (r : DRec) (S : St) : (r.app S).hp.length = S.hp.length := setUps_length _ _
theorem foldD_len (D : Nat → Bool) : ∀ (i : Nat) (l : List DRec) (S : St), (foldD D i l S).hp.length = S.hp.length
  | _, [], S => rfl
  | i, r :: l, S => by
    rw [foldD, foldD_len D (i + 1) l]
    split
    · exact app_len r S
    · rfl

theorem agree_trans {A B C : St} {ℓ : Loc} (h : A.agree B ℓ) (h' : B.agree C ℓ) : A.agree C ℓ := by
  cases ℓ <;> first | exact Eq.trans h h' | trivial
theorem agree_symm {A B : St} {ℓ : Loc} (h : A.agree B ℓ) : B.agree A ℓ := by
  cases ℓ <;> first | exact Eq.symm h | trivial
theorem agree_refl (A : St) (ℓ : Loc) : A.agree A ℓ := by cases ℓ <;> first | rfl | trivial

/-- Where the done ones agree on a place's writers, the place holds the same. -/
theorem foldD_agree {D D' : Nat → Bool} {ℓ : Loc} : ∀ (l : List DRec) (i : Nat) (S S' : St), S.hp.length = S'.hp.length → S.agree S' ℓ → (∀ (j : Nat) (r : DRec), l[j]? = some r → ℓ ∈ r.W → D (i + j) = D' (i + j)) →
    (foldD D i l S).agree (foldD D' i l S') ℓ
  | [], i, S, S', _, h, _ => h
  | r :: l, i, S, S', hl, h, hw => by
    simp only [foldD]
    refine foldD_agree l (i + 1) _ _ ?_ ?_ (fun j r' hr hm => by have := hw (j + 1) r' (by simpa using hr) hm; rw [show i + 1 + j = i + (j + 1) by omega]; exact this)
    · split <;> split <;> simp only [app_len, hl]
    · by_cases hm : ℓ ∈ r.W
      · have := hw 0 r (by simp) hm
        simp only [Nat.add_zero] at this
        rw [this]
        split
        · exact DRec.app_same hl hm
        · exact h
      · have h1 : (if D i = true then r.app S else S).agree S ℓ := by
          split
          · exact DRec.app_other hm
          · exact agree_refl _ _
        have h2 : (if D' i = true then r.app S' else S').agree S' ℓ := by
          split
          · exact DRec.app_other hm
          · exact agree_refl _ _
        exact agree_trans h1 (agree_trans h (agree_symm h2))

theorem foldD_split (D : Nat → Bool) : ∀ (k : Nat) (l : List DRec) (i : Nat) (S : St), foldD D i l S = foldD D (i + k) (l.drop k) (foldD D i (l.take k) S)
  | 0, l, i, S => by simp [foldD]
  | k + 1, [], i, S => by simp [foldD]
  | k + 1, r :: l, i, S => by
    simp only [foldD, List.take_succ_cons, List.drop_succ_cons]
    rw [foldD_split D k l (i + 1), show i + 1 + k = i + (k + 1) by omega]

/-- One more is done: as if it were done last, where nothing behind it in the text that is done writes its places. -/
theorem foldD_add {D : Nat → Bool} {k : Nat} {l : List DRec} {S : St} {r : DRec} (hr : l[k]? = some r) (hk : D k = false) (hlate : ∀ (j : Nat) (r' : DRec) (ℓ : Loc), l[j]? = some r' → k < j → ℓ ∈ r.W → ℓ ∈ r'.W → D j = false) (ℓ : Loc) :
    (foldD (fun i => if i = k then true else D i) 0 l S).agree (r.app (foldD D 0 l S)) ℓ := by
  have hlt : k < l.length := (List.getElem?_eq_some_iff.1 hr).1
  have hdrop : l.drop k = r :: l.drop (k + 1) := by
    rw [List.drop_eq_getElem_cons hlt]
    congr 1
    exact (List.getElem?_eq_some_iff.1 hr).2
  by_cases hm : ℓ ∈ r.W
  · -- both hold what r wrote
    rw [foldD_split _ k l 0, hdrop]
    simp only [Nat.zero_add, foldD, if_true]
    have h1 : (foldD (fun i => if i = k then true else D i) (k + 1) (l.drop (k + 1)) (r.app (foldD (fun i => if i = k then true else D i) 0 (l.take k) S))).agree
        (r.app (foldD (fun i => if i = k then true else D i) 0 (l.take k) S)) ℓ := by
      have : ∀ (D' : Nat → Bool) (l' : List DRec) (i : Nat) (T : St), (∀ (j : Nat) (r' : DRec), l'[j]? = some r' → ℓ ∈ r'.W → D' (i + j) = false) → (foldD D' i l' T).agree T ℓ := by
        intro D' l'
        induction l' with
        | nil => intro i T _; exact agree_refl _ _
        | cons r' l' ih =>
          intro i T hw
          simp only [foldD]
          refine agree_trans (ih (i + 1) _ fun j r'' hr'' hm'' => by have := hw (j + 1) r'' (by simpa using hr'') hm''; rw [show i + (j + 1) = i + 1 + j by omega] at this; exact this) ?_
          by_cases hm' : ℓ ∈ r'.W
          · have := hw 0 r' (by simp) hm'
            simp only [Nat.add_zero] at this
            rw [this]; exact agree_refl _ _
          · split
            · exact DRec.app_other hm'
            · exact agree_refl _ _
      refine this _ _ _ _ fun j r' hr' hm' => ?_
      show (if k + 1 + j = k then true else D (k + 1 + j)) = false
      rw [if_neg (by omega)]
      rw [List.getElem?_drop] at hr'
      exact hlate (k + 1 + j) r' ℓ hr' (by omega) hm hm'
    refine agree_trans h1 (DRec.app_same ?_ hm)
    rw [foldD_len, foldD_len]
  · refine agree_trans (foldD_agree (D' := D) l 0 S S rfl (agree_refl _ _) fun j r' hr' hm' => ?_) (agree_symm (DRec.app_other hm))
    by_cases e : j = k
    · subst e; rw [hr] at hr'; cases hr'; exact absurd hm' hm
    · simp only [Nat.zero_add, if_neg e]

/-- The edges that bind in every order. -/
def edges (o : Oper) : List Nat := (o.after.toList.filter (fun e => Region.binds .any e)).map (·.on)

/-- Do the records meet the region's edges? Whatever one writes and another reads or writes stands in an order. -/
def clash (R W R' W' : List Loc) : Bool := W.any (fun ℓ => R'.contains ℓ || W'.contains ℓ) || R.any (fun ℓ => W'.contains ℓ)
def okDraw (ops : Array Oper) (J : Nat) (acc : List (List Loc × List Loc)) : Bool :=
  let pr := (Region.before ops).toList
  acc.length == J && decide (J ≤ ops.size) &&
  (List.range ops.size).all fun k =>
    let ek := match ops[k]? with | some o => edges o | none => []
    ek.all (fun e => decide (e < k)) && decide (pr.getD k 0 < 2 ^ k) &&
    (List.range k).all fun i =>
      (!(pr.getD k 0).testBit i || ek.any (fun e => e == i || (pr.getD e 0).testBit i)) &&
      (if k < J then !(clash (acc.getD i ([], [])).1 (acc.getD i ([], [])).2 (acc.getD k ([], [])).1 (acc.getD k ([], [])).2) || (pr.getD k 0).testBit i else (pr.getD k 0).testBit i)

theorem okDraw_spec {ops : Array Oper} {J : Nat} {acc : List (List Loc × List Loc)} (h : okDraw ops J acc = true) : (acc.length = J ∧ J ≤ ops.size) ∧ ∀ k, k < ops.size →
    (∀ (o : Oper), ops[k]? = some o → ∀ e ∈ edges o, e < k) ∧ (Region.before ops).toList.getD k 0 < 2 ^ k ∧
    ∀ i, i < k → (((Region.before ops).toList.getD k 0).testBit i = true → ∃ o e, ops[k]? = some o ∧ e ∈ edges o ∧ (e = i ∨ ((Region.before ops).toList.getD e 0).testBit i = true)) ∧
      (k < J → clash (acc.getD i ([], [])).1 (acc.getD i ([], [])).2 (acc.getD k ([], [])).1 (acc.getD k ([], [])).2 = true → ((Region.before ops).toList.getD k 0).testBit i = true) ∧
      (J ≤ k → ((Region.before ops).toList.getD k 0).testBit i = true) := by
  simp only [okDraw, Bool.and_eq_true, beq_iff_eq, List.all_eq_true, List.mem_range, decide_eq_true_eq] at h
  refine ⟨h.1, fun k hk => ?_⟩
  obtain ⟨⟨h1, h0⟩, h2⟩ := h.2 k hk
  refine ⟨fun o ho e he => ?_, h0, fun i hi => ?_⟩
  · rw [ho] at h1; exact h1 e he
  · obtain ⟨h3, h4⟩ := h2 i hi
    refine ⟨fun hb => ?_, fun hJ hc => ?_, fun hJ => ?_⟩
    · rw [hb] at h3
      simp only [Bool.not_true, Bool.false_or, List.any_eq_true, Bool.or_eq_true, beq_iff_eq] at h3
      obtain ⟨e, he, h5⟩ := h3
      cases ho : ops[k]? with
      | none => rw [ho] at he; simp at he
      | some o => rw [ho] at he; exact ⟨o, e, rfl, he, h5⟩
    · rw [if_pos hJ, hc] at h4; simpa using h4
    · rw [if_neg (by omega)] at h4; exact h4

/-- A set of operations that is closed under the edges. -/
def Closed (ops : Array Oper) (D : Nat → Bool) : Prop := ∀ (j : Nat) (o : Oper), D j = true → ops[j]? = some o → ∀ e ∈ edges o, D e = true

theorem closed_bits {ops : Array Oper} {J : Nat} {acc : List (List Loc × List Loc)} (hok : okDraw ops J acc = true) {D : Nat → Bool} (hD : Closed ops D) : ∀ (k : Nat), k < ops.size → (∀ (o : Oper), ops[k]? = some o → ∀ e ∈ edges o, D e = true) →
    ∀ i, i < k → ((Region.before ops).toList.getD k 0).testBit i = true → D i = true := by
  intro k
  induction k using Nat.strongRecOn with
  | _ k ih =>
    intro hk hall i hi hb
    obtain ⟨h1, _, h2⟩ := (okDraw_spec hok).2 k hk
    obtain ⟨o, e, ho, he, h3⟩ := (h2 i hi).1 hb
    have hek := h1 o ho e he
    have hDe := hall o ho e he
    rcases h3 with rfl | h3
    · exact hDe
    · rcases Nat.lt_or_ge i e with h4 | h4
      · exact ih e hek (by omega) (fun o' ho' e' he' => hD e o' hDe ho' e' he') i h4 h3
      · -- a bit of e that is not below e: then it is e's own edges that say so; the bit stands for k too
        rcases Nat.eq_or_lt_of_le h4 with h5 | h5
        · subst h5; exact hDe
        · have := (okDraw_spec hok).2 e (by omega)
          have hlt := this.2.1
          rw [Nat.testBit_lt_two_pow (Nat.lt_of_lt_of_le hlt (Nat.pow_le_pow_right (by omega) h4))] at h3
          cases h3

theorem clash_spec {R W R' W' : List Loc} {ℓ : Loc} (h : (ℓ ∈ W ∧ (ℓ ∈ R' ∨ ℓ ∈ W')) ∨ (ℓ ∈ R ∧ ℓ ∈ W')) : clash R W R' W' = true := by
  simp only [clash, Bool.or_eq_true, List.any_eq_true, List.contains_iff_mem]
  rcases h with ⟨h1, h2⟩ | ⟨h1, h2⟩
  · exact .inl ⟨ℓ, h1, h2⟩
  · exact .inr ⟨ℓ, h1, h2⟩

/-- Name n stands nowhere in a state, nor in what a record writes. -/
def FrS (n : Nat) (S : St) : Prop := (∀ t, fr n (gtm S.tm t) = true) ∧ frH n S.hp
def DRec.free (r : DRec) (n : Nat) : Prop := fr n r.x = true ∧ ∀ u ∈ r.ups, ∀ T cs, u.2 = .box T cs → frL n cs = true

theorem frH_set {n k : Nat} {h : List Blk} {b : Blk} (hf : frH n h) (hb : ∀ T cs, b = .box T cs → frL n cs = true) : frH n (h.set k b) := by
  intro j T cs hj
  by_cases e : j = k
  · subst e
    rw [List.getElem?_set] at hj
    simp at hj
    exact hb T cs hj.2
  · rw [List.getElem?_set_ne (by omega)] at hj; exact hf j T cs hj
theorem frH_ups {n : Nat} : ∀ {l : List (Nat × Blk)} {h : List Blk}, frH n h → (∀ u ∈ l, ∀ T cs, u.2 = .box T cs → frL n cs = true) → frH n (setUps l h)
  | [], h, hf, _ => hf
  | (k, b) :: l, h, hf, hl => by
    show frH n (setUps l (h.set k b))
    exact frH_ups (frH_set hf fun T cs e => hl (k, b) (by simp) T cs e) fun u hu => hl u (by simp [hu])
theorem FrS.app {n : Nat} {S : St} {r : DRec} (h : FrS n S) (hr : r.free n) : FrS n (r.app S) := by
  refine ⟨fun t => ?_, frH_ups h.2 hr.2⟩
  simp only [DRec.app]
  cases r.dst with
  | none => exact h.1 t
  | some d =>
    simp only [putTm, gtm]
    split
    · exact hr.1
    · exact h.1 t
theorem foldD_fr {n : Nat} {D : Nat → Bool} : ∀ (l : List DRec) (i : Nat) (S : St), FrS n S → (∀ (j : Nat) (r : DRec), l[j]? = some r → D (i + j) = true → r.free n) → FrS n (foldD D i l S)
  | [], i, S, h, _ => h
  | r :: l, i, S, h, hf => by
    simp only [foldD]
    refine foldD_fr l (i + 1) _ ?_ fun j r' hj hd => hf (j + 1) r' (by simpa using hj) (by rw [show i + (j + 1) = i + 1 + j by omega]; exact hd)
    split
    · rename_i hd; exact h.app (hf 0 r (by simp) (by simpa using hd))
    · exact h

/-- An operation's step, wherever the places that it reads hold what they held in the text's order. -/
def DStep (C : Ctx) (ops : Array Oper) (k : Nat) (r : DRec) (S : St) : Prop :=
  ∀ S' : St, S'.hp.length = S.hp.length → (∀ ℓ ∈ r.R, S'.agree S ℓ) → (∀ n, r.nw = some n → FrS n S') → ∀ ι a w, Here C S' ι a w → ∀ (Q : Exit → Act → World → Prop) (next : Act → World → Prop),
    (∀ ι' a' w', Here C (r.app S') ι' a' w' → next a' w') → wpOpIn C.F C.n C.P ops Q k next a w

theorem here_agree {C : Ctx} {S S' : St} (hl : S.hp.length = S'.hp.length) (h : ∀ ℓ, S.agree S' ℓ) {ι : Names'} {a : Act} {w : World} (hh : Here C S ι a w) : Here C S' ι a w := by
  have hhp : S.hp = S'.hp := List.ext_getElem? fun n => h (.b n)
  have htm : ∀ t, gtm S.tm t = gtm S'.tm t := fun n => h (.t n)
  obtain ⟨h1, h2, h3, h4, h5, h6, h7⟩ := hh
  rw [hhp] at h1 h2 h6
  exact ⟨h1, fun t => by rw [← htm t]; exact h2 t, h3, h4, h5, h6, h7⟩

/-- What stands behind all else goes in the text's order. -/
theorem tail_seq {C : Ctx} {ops : Array Oper} {J : Nat} {acc : List (List Loc × List Loc)} {Q : Kont} (hok : okDraw ops J acc = true) : ∀ (fuel k : Nat) (listed : Array Bool), J ≤ k → k ≤ ops.size → listed.size = ops.size → (∀ i, i < k → listed.getD i false = true) → (∀ i, k ≤ i → listed.getD i false = false) →
    ops.size - k ≤ fuel → ∀ a w, wpL C.F C.n C.P ops Q (ops.toList.drop k) a w → wpAnyIn C.F C.n C.P .any ops Q fuel listed a w := by
  intro fuel
  have hclosed : ∀ (k : Nat) (listed : Array Bool), k ≤ ops.size → (∀ i, i < k → listed.getD i false = true) → (∀ i, k ≤ i → listed.getD i false = false) → Closed ops (fun i => listed.getD i false) := by
    intro k listed hk h1 h2 j o hj ho e he
    have hjk : j < k := by
      rcases Nat.lt_or_ge j k with h | h
      · exact h
      · have := h2 j h; simp only at hj; rw [this] at hj; cases hj
    have := ((okDraw_spec hok).2 j (by omega)).1 o ho e he
    exact h1 e (by omega)
  have honly : ∀ (k : Nat) (listed : Array Bool), J ≤ k → k ≤ ops.size → listed.size = ops.size → (∀ i, i < k → listed.getD i false = true) → (∀ i, k ≤ i → listed.getD i false = false) → ∀ i, i ∈ Region.ready .any ops listed → i = k ∧ k < ops.size := by
    intro k listed hJ hk hsz h1 h2 i hi
    rw [mem_ready] at hi
    obtain ⟨h0, o, ho, hed⟩ := hi
    have hlt := (Array.getElem?_eq_some_iff.1 ho).1
    have hne : listed.getD i false = false := by
      rw [← h0]; simp [Array.getD_eq_getD_getElem?, Array.getElem?_eq_getElem (show i < listed.size by omega)]
    have hki : k ≤ i := by
      rcases Nat.lt_or_ge i k with h | h
      · rw [h1 i h] at hne; cases hne
      · exact h
    rcases Nat.eq_or_lt_of_le hki with h | h
    · exact ⟨h.symm, by omega⟩
    · exfalso
      have hE : ∀ (o' : Oper), ops[i]? = some o' → ∀ e ∈ edges o', listed.getD e false = true := by
        intro o' ho' e he
        rw [ho] at ho'; cases ho'
        obtain ⟨ed, hed', rfl⟩ := List.mem_map.1 he
        obtain ⟨g1, g2⟩ := List.mem_filter.1 hed'
        exact hed ed (by simpa using g1) g2
      have hb := (((okDraw_spec hok).2 i hlt).2.2 k h).2.2 (by omega)
      have := closed_bits hok (hclosed k listed hk h1 h2) i hlt hE k h hb
      rw [h2 k (Nat.le_refl _)] at this; cases this
  have hready : ∀ (k : Nat) (listed : Array Bool), k < ops.size → listed.size = ops.size → (∀ i, i < k → listed.getD i false = true) → (∀ i, k ≤ i → listed.getD i false = false) → k ∈ Region.ready .any ops listed := by
    intro k listed hk hsz h1 h2
    rw [mem_ready]
    have hg : listed.getD k true = false := by
      rw [← h2 k (Nat.le_refl _)]; simp [Array.getD_eq_getD_getElem?, Array.getElem?_eq_getElem (show k < listed.size by omega)]
    refine ⟨hg, ops[k], Array.getElem?_eq_getElem hk, fun e he hb => ?_⟩
    have hee : e.on ∈ edges ops[k] := List.mem_map.2 ⟨e, List.mem_filter.2 ⟨by simpa using he, hb⟩, rfl⟩
    exact h1 _ (((okDraw_spec hok).2 k hk).1 _ (Array.getElem?_eq_getElem hk) _ hee)
  have hend : ∀ (k : Nat) (listed : Array Bool), J ≤ k → k ≤ ops.size → listed.size = ops.size → (∀ i, i < k → listed.getD i false = true) → (∀ i, k ≤ i → listed.getD i false = false) → ∀ a w, wpL C.F C.n C.P ops Q (ops.toList.drop k) a w → Region.ready .any ops listed = [] → Q .normal a w := by
    intro k listed hJ hk hsz h1 h2 a w h hr
    rcases Nat.lt_or_ge k ops.size with hlt | hge
    · have := hready k listed hlt hsz h1 h2
      rw [hr] at this; cases this
    · rw [List.drop_eq_nil_of_le (by simp; omega)] at h; exact h
  induction fuel with
  | zero =>
    intro k listed hJ hk hsz h1 h2 hf a w h
    have hr : Region.ready .any ops listed = [] := by
      cases hrd : Region.ready .any ops listed with
      | nil => rfl
      | cons i l => have := (honly k listed hJ hk hsz h1 h2 i (by rw [hrd]; simp)).2; omega
    exact ⟨hr, hend k listed hJ hk hsz h1 h2 a w h hr⟩
  | succ fuel ih =>
    intro k listed hJ hk hsz h1 h2 hf a w h
    refine ⟨fun hr => hend k listed hJ hk hsz h1 h2 a w h hr, fun i hi => ?_⟩
    obtain ⟨rfl, hlt⟩ := honly k listed hJ hk hsz h1 h2 i hi
    have hltl : i < ops.toList.length := by simpa using hlt
    rw [List.drop_eq_getElem_cons hltl] at h
    have ho : ops[i]? = some ops.toList[i] := by simp [Array.getElem?_eq_getElem hlt]
    have ih' : ∀ a w, wpL C.F C.n C.P ops Q (ops.toList.drop (i + 1)) a w → wpAnyIn C.F C.n C.P .any ops Q fuel (listed.setIfInBounds i true) a w := by
      intro a w h'
      refine ih (i + 1) _ (by omega) (by omega) (by simpa using hsz) (fun j hj => ?_) (fun j hj => ?_) (by omega) a w h'
      · by_cases e : j = i
        · subst e; simp [Array.getElem?_setIfInBounds, show j < listed.size by omega]
        · exact getD_set_true (h1 j (by omega))
      · rw [getD_set_ne false (by omega)]; exact h2 j (by omega)
    unfold wpOpIn
    rw [ho]
    simp only [wpL] at h ⊢
    split
    · rename_i hw; rw [if_pos hw] at h; exact Oper.wpIn_mono ih' h
    · rename_i hw; rw [if_neg hw] at h; exact ⟨h.1, ih' _ _ h.2⟩

theorem draw_any {C : Ctx} {ops : Array Oper} {k : Kont} {S : St} {recs : List DRec} {J : Nat} (hok : okDraw ops J (recs.map fun r => (r.R, r.W)) = true)
    (hsteps : ∀ (i : Nat) (r : DRec), recs[i]? = some r → DStep C ops i r (foldD (fun _ => true) 0 (recs.take i) S)) (hend : AOps C ops (ops.toList.drop J) k (foldD (fun _ => true) 0 recs S))
    (hinit : ∀ (i : Nat) (r : DRec) (n : Nat), recs[i]? = some r → r.nw = some n → FrS n S)
    (hfree : ∀ (i : Nat) (r : DRec) (n : Nat), recs[i]? = some r → r.nw = some n → ∀ (j : Nat) (r' : DRec), recs[j]? = some r' → j ≠ i → r'.free n ∨ (i < j ∧ Loc.f n ∈ r'.R)) :
    ∀ (fuel : Nat) (listed : Array Bool), listed.size = ops.size → (∀ i, J ≤ i → listed.getD i false = false) → Closed ops (fun i => listed.getD i false) → ((List.range ops.size).filter fun i => !listed.getD i false).length ≤ fuel →
      ∀ ι a w, Here C (foldD (fun i => listed.getD i false) 0 recs S) ι a w → wpAnyIn C.F C.n C.P .any ops k fuel listed a w := by
  have hlen : recs.length = J := by have := (okDraw_spec hok).1.1; simpa using this
  have hJs : J ≤ ops.size := (okDraw_spec hok).1.2
  have hacc : ∀ (i : Nat) (r : DRec), recs[i]? = some r → (recs.map fun r => (r.R, r.W)).getD i ([], []) = (r.R, r.W) := by
    intro i r hr; simp [List.getD, hr]
  -- nothing is ready: all is done
  have hdone : ∀ (listed : Array Bool), listed.size = ops.size → Region.ready .any ops listed = [] → ∀ i, i < ops.size → listed.getD i false = true := by
    intro listed hsz hr i
    induction i using Nat.strongRecOn with
    | _ i ih =>
      intro hi
      cases hl : listed.getD i false with
      | true => rfl
      | false =>
        exfalso
        have : i ∈ Region.ready .any ops listed := by
          rw [mem_ready]
          have hg : listed.getD i true = false := by
            rw [← hl]; simp [Array.getD_eq_getD_getElem?, Array.getElem?_eq_getElem (show i < listed.size by omega)]
          refine ⟨hg, ops[i], Array.getElem?_eq_getElem hi, fun e he hb => ?_⟩
          have hee : e.on ∈ edges ops[i] := List.mem_map.2 ⟨e, List.mem_filter.2 ⟨by simpa using he, hb⟩, rfl⟩
          have hlt := ((okDraw_spec hok).2 i hi).1 _ (Array.getElem?_eq_getElem hi) _ hee
          exact ih e.on hlt (by omega)
        rw [hr] at this; cases this
  -- all below the tail is done: the tail
  have htail : ∀ (fuel : Nat) (listed : Array Bool), listed.size = ops.size → (∀ i, J ≤ i → listed.getD i false = false) → (∀ i, i < J → listed.getD i false = true) → ((List.range ops.size).filter fun i => !listed.getD i false).length ≤ fuel →
      ∀ ι a w, Here C (foldD (fun i => listed.getD i false) 0 recs S) ι a w → wpAnyIn C.F C.n C.P .any ops k fuel listed a w := by
    intro fuel listed hsz hJ hd hcount ι a w hh
    refine tail_seq hok fuel J listed (Nat.le_refl _) hJs hsz hd hJ ?_ a w (hend ι a w (here_agree (by rw [foldD_len, foldD_len]) (fun ℓ => ?_) hh))
    · refine Nat.le_trans ?_ hcount
      have e : List.range ops.size = List.range J ++ (List.range (ops.size - J)).map (J + ·) := by rw [← List.range_add]; congr 1; omega
      rw [e, List.filter_append, List.length_append]
      have : ((List.range (ops.size - J)).map (J + ·)).filter (fun i => !listed.getD i false) = (List.range (ops.size - J)).map (J + ·) := by
        rw [List.filter_eq_self]
        intro x hx
        obtain ⟨y, _, rfl⟩ := List.mem_map.1 hx
        rw [hJ _ (by omega)]; rfl
      rw [this]; simp
    · refine foldD_agree recs 0 S S rfl (agree_refl _ _) fun j r hj _ => ?_
      have := (List.getElem?_eq_some_iff.1 hj).1
      rw [Nat.zero_add]
      exact hd j (by omega)
  intro fuel
  induction fuel with
  | zero =>
    intro listed hsz hJ hcl hcount ι a w hh
    refine htail 0 listed hsz hJ (fun i hi => ?_) hcount ι a w hh
    cases hl : listed.getD i false with
    | true => rfl
    | false =>
      have : i ∈ (List.range ops.size).filter fun i => !listed.getD i false := by
        rw [List.mem_filter]; exact ⟨List.mem_range.2 (by omega), by rw [hl]; rfl⟩
      have hz : (List.range ops.size).filter (fun i => !listed.getD i false) = [] := List.length_eq_zero_iff.1 (Nat.le_zero.1 hcount)
      rw [hz] at this; cases this
  | succ fuel ih =>
    intro listed hsz hJ hcl hcount ι a w hh
    by_cases hdn : ∀ i, i < J → listed.getD i false = true
    · exact htail (fuel + 1) listed hsz hJ hdn hcount ι a w hh
    refine ⟨fun hr => absurd (fun i hi => hdone listed hsz hr i (by omega)) hdn, fun i hi => ?_⟩
    have hi' := hi
    rw [mem_ready] at hi'
    obtain ⟨h0, o, ho, hedges⟩ := hi'
    have hlt := (Array.getElem?_eq_some_iff.1 ho).1
    have hne : listed.getD i false = false := by
      rw [← h0]; simp [Array.getD_eq_getD_getElem?, Array.getElem?_eq_getElem (show i < listed.size by omega)]
    have hE : ∀ e ∈ edges o, listed.getD e false = true := by
      intro e he
      obtain ⟨ed, hed, rfl⟩ := List.mem_map.1 he
      obtain ⟨h1, h2⟩ := List.mem_filter.1 hed
      exact hedges ed (by simpa using h1) h2
    have hbits := closed_bits hok hcl i hlt (fun o' ho' e he => by rw [ho] at ho'; cases ho'; exact hE e he)
    have hiJ : i < J := by
      rcases Nat.lt_or_ge i J with h | h
      · exact h
      · exact absurd (fun j hj => hbits j (by omega) ((((okDraw_spec hok).2 i hlt).2.2 j (by omega)).2.2 h)) hdn
    obtain ⟨r, hr⟩ : ∃ r, recs[i]? = some r := ⟨_, List.getElem?_eq_getElem (by omega)⟩
    -- whatever stands in an order with i stands on the right side
    have hord : ∀ (j : Nat) (r' : DRec) (ℓ : Loc), recs[j]? = some r' → ((ℓ ∈ r.R ∧ ℓ ∈ r'.W) ∨ (ℓ ∈ r.W ∧ ℓ ∈ r'.W)) → (j < i → listed.getD j false = true) ∧ (i < j → listed.getD j false = false) := by
      intro j r' ℓ hj hm
      have hjlt := (List.getElem?_eq_some_iff.1 hj).1
      refine ⟨fun hji => ?_, fun hij => ?_⟩
      · refine hbits j hji ((((okDraw_spec hok).2 i hlt).2.2 j hji).2.1 hiJ ?_)
        rw [hacc j r' hj, hacc i r hr]
        exact clash_spec (ℓ := ℓ) (.inl ⟨by rcases hm with h | h <;> exact h.2, by rcases hm with h | h; exact .inl h.1; exact .inr h.1⟩)
      · cases hlj : listed.getD j false with
        | false => rfl
        | true =>
          exfalso
          have hjs : j < ops.size := by omega
          have hb := (((okDraw_spec hok).2 j hjs).2.2 i hij).2.1 (by omega) (by
            rw [hacc j r' hj, hacc i r hr]
            rcases hm with h | h
            · exact clash_spec (ℓ := ℓ) (.inr ⟨h.1, h.2⟩)
            · exact clash_spec (ℓ := ℓ) (.inl ⟨h.1, .inr h.2⟩))
          have := closed_bits hok hcl j hjs (fun o' ho' e he => hcl j o' hlj ho' e he) i hij hb
          rw [hne] at this; cases this
    refine hsteps i r hr _ ?_ (fun ℓ hℓ => ?_) (fun n hn => ?_) ι a w hh k _ (fun ι' a' w' hh' => ih (listed.setIfInBounds i true) (by simpa using hsz) (fun j hj => by rw [getD_set_ne false (by omega)]; exact hJ j hj) ?_ ?_ ι' a' w' ?_)
    · rw [foldD_len, foldD_len]
    · -- what it reads is as in the text's order
      refine agree_trans (foldD_agree (D' := fun j => decide (j < i)) recs 0 S S rfl (agree_refl _ _) fun j r' hj hm => ?_) ?_
      · have := hord j r' ℓ hj (.inl ⟨hℓ, hm⟩)
        simp only [Nat.zero_add]
        rcases Nat.lt_trichotomy j i with h | h | h
        · rw [this.1 h]; simp [h]
        · subst h
          rw [hne]; simp
        · rw [this.2 h]; simp; omega
      · have hs := foldD_split (fun j => decide (j < i)) i recs 0 S
        rw [hs]
        have hnone : ∀ (l : List DRec) (s : Nat) (T : St), i ≤ s → foldD (fun j => decide (j < i)) s l T = T := by
          intro l
          induction l with
          | nil => intro s T _; rfl
          | cons r' l ihl => intro s T hs; rw [foldD, ihl (s + 1) _ (by omega)]; simp; omega
        rw [hnone _ _ _ (by omega)]
        refine foldD_agree _ 0 S S rfl (agree_refl _ _) fun j r' hj _ => ?_
        have := (List.getElem?_eq_some_iff.1 hj).1
        simp only [List.length_take] at this
        simp; omega
    · -- its new name stands nowhere yet
      refine foldD_fr recs 0 S (hinit i r n hr hn) fun j r' hj hd => ?_
      rw [Nat.zero_add] at hd
      have hji : j ≠ i := by intro e; subst e; rw [hne] at hd; cases hd
      rcases hfree i r n hr hn j r' hj hji with h1 | ⟨hij, h1⟩
      · exact h1
      · exfalso
        have hjs : j < ops.size := by have := (List.getElem?_eq_some_iff.1 hj).1; omega
        have hb := (((okDraw_spec hok).2 j hjs).2.2 i hij).2.1 (by have := (List.getElem?_eq_some_iff.1 hj).1; omega) (by
          rw [hacc j r' hj, hacc i r hr]
          exact clash_spec (ℓ := .f n) (.inl ⟨by simp [DRec.W, hn], .inl h1⟩))
        have := closed_bits hok hcl j hjs (fun o' ho' e he => hcl j o' hd ho' e he) i hij hb
        rw [hne] at this; cases this
    · -- closed
      intro j o' hj ho' e he
      by_cases hji : j = i
      · subst hji
        rw [ho] at ho'; cases ho'
        exact getD_set_true (hE e he)
      · have : listed.getD j false = true := by
          have hj' : (listed.setIfInBounds i true).getD j false = true := hj
          rwa [getD_set_ne false (Ne.symm hji)] at hj'
        exact getD_set_true (hcl j o' this ho' e he)
    · -- one fewer is left
      have hsub : ((List.range ops.size).filter fun j => !(listed.setIfInBounds i true).getD j false) = ((List.range ops.size).filter fun j => !listed.getD j false).filter (fun j => j != i) := by
        rw [List.filter_filter]
        apply List.filter_congr
        intro j hj
        by_cases hji : j = i
        · subst hji
          simp [Array.getElem?_setIfInBounds, show j < listed.size by omega]
        · rw [getD_set_ne false (Ne.symm hji)]; simp [hji]
      rw [hsub]
      have hmem : i ∈ (List.range ops.size).filter fun j => !listed.getD j false := by
        rw [List.mem_filter]; exact ⟨List.mem_range.2 hlt, by rw [hne]; rfl⟩
      have : (((List.range ops.size).filter fun j => !listed.getD j false).filter (fun j => j != i)).length < ((List.range ops.size).filter fun j => !listed.getD j false).length := by
        refine List.length_filter_lt_length_iff_exists.2 ⟨i, hmem, by simp⟩
      omega
    · refine here_agree (by rw [app_len, foldD_len, foldD_len]) (fun ℓ => ?_) hh'
      refine agree_symm (agree_trans ?_ (foldD_add (D := fun j => listed.getD j false) hr hne ?_ ℓ))
      · refine foldD_agree _ 0 S S rfl (agree_refl _ _) fun j r' hj _ => ?_
        have := (List.getElem?_eq_some_iff.1 hj).1
        simp only [Nat.zero_add]
        by_cases hji : j = i
        · subst hji
          simp [Array.getElem?_setIfInBounds, show j < listed.size by omega]
        · rw [getD_set_ne false (Ne.symm hji), if_neg hji]
      · intro j r' ℓ' hj hij h1 h2
        exact (hord j r' ℓ' hj (.inr ⟨h1, h2⟩)).2 hij
end SX
