/- SX: slices that grow. -/
import Derived.Test.YtgcggepppeficaaGreatDoorSxBuild
import Derived.Laws.MakeOwn
import Derived.Lib.AppendStr
import Derived.Lib.ConvBytes
import Derived.Laws.BytesString
import Derived.Great.BuildSlice
set_option linter.all false
set_option linter.unusedVariables false
set_option linter.unnecessarySimpa false
set_option linter.unusedSimpArgs false
namespace SX
open Go

section
variable {P : Program} {ρ : Operand → Value} {o : Oper} {wc : World} {ok0 : Nat → Prop} {fp : List Nat} {ι : Names'} {h h' : List Blk} {w w' : World} {x : AV} {v : Value}

/-- A new block, in a world that differs in new blocks and draws alone. -/
theorem Rel.fresh (hr : Rel wc ok0 fp ι h w) {w' : World} {obj : Obj} {c : Nat} {blk : Blk} (h1 : w'.os = w.os) (h2 : w'.tape = w.tape) (h3 : w'.output = w.output) (h4 : w'.heap = w.heap.push obj)
    (hb : ∀ ok' ι', Keeps w (okN wc ok0 ι h) w' ok' → Carried id ι ι' → w'.heap[w.heap.size]? = some obj → BlkAt w' ok' ι' w.heap.size c blk) :
    Rel wc ok0 fp (ι ++ [(w.heap.size, c)]) (h ++ [blk]) w' ∧ Keeps w (okN wc ok0 ι h) w' (okN wc ok0 (ι ++ [(w.heap.size, c)]) (h ++ [blk])) := by
  have hnew : w'.heap[w.heap.size]? = some obj := by rw [h4]; simp
  have hold : ∀ b, b < w.heap.size → w'.heap[b]? = w.heap[b]? := fun b hb => by rw [h4]; exact getElem?_push_lt _ _ hb
  have hk : Keeps w (okN wc ok0 ι h) w' (okN wc ok0 (ι ++ [(w.heap.size, c)]) (h ++ [blk])) := by
    rintro b ⟨hb1, hb2⟩ hlt
    refine ⟨hold b hlt, hb1, fun n c' blk' hn hl he => ?_⟩
    rcases Nat.lt_or_ge n h.length with hlt' | hge
    · rw [List.getElem?_append_left hlt'] at hn
      rw [List.getElem?_append_left (by rw [hr.len]; exact hlt')] at he
      exact hb2 n c' blk' hn hl he
    · rw [List.getElem?_append_right (by rw [hr.len]; exact hge), hr.len] at he
      cases hd : n - h.length with
      | zero => rw [hd] at he; simp at he; omega
      | succ k => rw [hd] at he; simp at he
  obtain ⟨hr', hk'⟩ := hr.more (w' := w') (c := c) (blk := blk) h1 h2 h3 (by rw [h4]; simp) hold (hb _ _ hk (carried_append _ _) hnew)
  exact ⟨hr', hk'⟩

/-- A block under a new name. -/
theorem Rel.rename (hr : Rel wc ok0 fp ι h w) {n b c : Nat} {blk : Blk} (hn : ι[n]? = some (b, c)) (hh : h[n]? = some blk) (hl : blk.live = true) :
    Rel wc ok0 fp (ι ++ [(b, c)]) (h.set n .dead ++ [blk]) w ∧ Keeps w (okN wc ok0 ι h) w (okN wc ok0 (ι ++ [(b, c)]) (h.set n .dead ++ [blk])) := by
  have hlt : n < h.length := (List.getElem?_eq_some_iff.1 hh).1
  have hg : ∀ (k : Nat) (bc : Nat × Nat) (blk' : Blk), (ι ++ [(b, c)])[k]? = some bc → (h.set n .dead ++ [blk])[k]? = some blk' → blk'.live = true →
      (k ≠ n ∧ k < h.length ∧ ι[k]? = some bc ∧ h[k]? = some blk') ∨ (k = h.length ∧ bc = (b, c) ∧ blk' = blk) := by
    intro k bc blk' hk hb hl'
    rcases Nat.lt_or_ge k h.length with hlt' | hge
    · rw [List.getElem?_append_left (by simpa using hlt')] at hb
      rw [List.getElem?_append_left (by rw [hr.len]; exact hlt')] at hk
      by_cases e : k = n
      · subst e; rw [List.getElem?_set_self hlt] at hb; simp at hb; subst hb; cases hl'
      · rw [List.getElem?_set_ne (by omega)] at hb; exact .inl ⟨e, hlt', hk, hb⟩
    · rw [List.getElem?_append_right (by simpa using hge)] at hb
      rw [List.getElem?_append_right (by rw [hr.len]; exact hge), hr.len] at hk
      simp only [List.length_set] at hb
      cases hd : k - h.length with
      | zero => rw [hd] at hb hk; simp at hb hk; exact .inr ⟨by omega, hk.symm, hb.symm⟩
      | succ k => rw [hd] at hb; simp at hb
  have hk : Keeps w (okN wc ok0 ι h) w (okN wc ok0 (ι ++ [(b, c)]) (h.set n .dead ++ [blk])) := by
    rintro k ⟨k1, k2⟩ _
    refine ⟨rfl, k1, fun m c' blk1 hm hml he => ?_⟩
    rcases hg m _ blk1 he hm hml with ⟨_, _, g1, g2⟩ | ⟨_, g1, g2⟩
    · exact k2 m c' blk1 g2 hml g1
    · cases g1; subst g2; exact k2 n c blk1 hh hml hn
  refine ⟨⟨hr.os, hr.tape, hr.output, hr.size, hr.frame, by simp [hr.len], ?_, ?_⟩, hk⟩
  · intro m b' c' blk1 hm hh1 hl1
    rcases hg m _ blk1 hm hh1 hl1 with ⟨_, _, g1, g2⟩ | ⟨_, g1, g2⟩
    · obtain ⟨d1, d2, d3⟩ := hr.own m b' c' blk1 g1 g2 hl1
      exact ⟨d1, d2, d3.keep hk (carried_append _ _) rfl⟩
    · cases g1; subst g2
      obtain ⟨d1, d2, d3⟩ := hr.own n b c blk1 hn hh hl1
      exact ⟨d1, d2, d3.keep hk (carried_append _ _) rfl⟩
  · intro m m' b' c' c'' blk1 blk2 e1 e2 e3 e4 l1 l2
    rcases hg m _ blk1 e1 e3 l1 with ⟨n1, _, g1, g2⟩ | ⟨n1, g1, g2⟩ <;> rcases hg m' _ blk2 e2 e4 l2 with ⟨n2, _, f1, f2⟩ | ⟨n2, f1, f2⟩
    · exact hr.inj _ _ _ _ _ _ _ g1 f1 g2 f2 l1 l2
    · cases f1; exact absurd (hr.inj _ _ _ _ _ _ _ g1 hn g2 hh l1 hl) n1
    · cases g1; exact absurd (hr.inj _ _ _ _ _ _ _ f1 hn f2 hh l2 hl) n2
    · omega

/-- What a slice's elements are. -/
def srcA (hp : List Blk) (m : Nat) : AV → Option (List (List AV) × Prop)
  | .xs m' l => some (l, m' = m)
  | .own n m' o len => match hp[n]? with
    | some (.rows _ m2 _ l) => some ((l.drop o).take len, m' = m ∧ m2 = m ∧ o + len ≤ l.length)
    | _ => none
  | .nilsl => some ([], True)
  | .zsl => some ([], True)
  | _ => none

theorem denRows_facts {ok : Nat → Prop} {m : Nat} {a : Option Addr} : ∀ {l : List (List AV)} {s : Nat}, DenRows w ok m a s l → (∀ r ∈ l, r.length = m) ∧ l.flatten.all one = true
  | [], _, _ => ⟨by simp, rfl⟩
  | r :: l, s, ⟨⟨hl, ad, _, _, hc⟩, hr⟩ => by
    obtain ⟨h1, h2⟩ := denRows_facts hr
    have hc1 : ∀ {cs : List AV} {b o : Nat}, DenCells w ok b o cs → cs.all one = true := by
      intro cs
      induction cs with
      | nil => intro _ _ _; rfl
      | cons c cs ih => intro b o ⟨⟨u, _, _, h1, _⟩, h2⟩; simp only [List.all_cons, h1, ih h2, Bool.and_self]
    refine ⟨fun r' hr' => ?_, ?_⟩
    · rcases List.mem_cons.1 hr' with rfl | h'
      · exact hl
      · exact h1 r' h'
    · simp only [List.flatten_cons, List.all_append, hc1 hc, h2, Bool.and_self]

theorem denRows_reads {ok : Nat → Prop} {m : Nat} {b off : Nat} : ∀ {l : List (List AV)} {s : Nat}, DenRows w ok m (some ⟨b, off, none⟩) s l → Reads w ok [] b (off + s * m) l.flatten
  | [], s, _ => Reads.nil _ _ _ _ _
  | r :: l, s, ⟨⟨hl, ad, e, _, hc⟩, hr⟩ => by
    cases e
    have h1 := reads_data hc
    have h2 := denRows_reads hr
    intro j x hx
    rcases Nat.lt_or_ge j r.length with hlt | hge
    · simp only [List.flatten_cons] at hx
      rw [List.getElem?_append_left hlt] at hx
      exact h1 j x hx
    · simp only [List.flatten_cons] at hx
      rw [List.getElem?_append_right hge] at hx
      obtain ⟨u, hu, hd⟩ := h2 _ _ hx
      refine ⟨u, ?_, hd⟩
      rw [← hu]; congr 2; rw [Nat.add_mul]; omega

theorem flatten_cut {m o len : Nat} {l : List (List AV)} (hl : ∀ r ∈ l, r.length = m) (hle : o + len ≤ l.length) : ((l.drop o).take len).flatten = (l.flatten.drop (o * m)).take (len * m) := by
  have e2 : (l.take o).flatten.length = o * m := by
    rw [flatten_len (m := m) (fun r hr => hl r (List.mem_of_mem_take hr)), List.length_take, Nat.min_eq_left (by omega)]
  have hlenl : ((l.drop o).take len).length = len := by simp; omega
  have e3 : ((l.drop o).take len).flatten.length = len * m := by rw [flatten_len (m := m) (fun r hr => hl r (List.mem_of_mem_drop (List.mem_of_mem_take hr))), hlenl]
  have e4 : l.flatten = (l.take o).flatten ++ (((l.drop o).take len).flatten ++ ((l.drop o).drop len).flatten) := by
    rw [← List.flatten_append, ← List.flatten_append, List.take_append_drop, List.take_append_drop]
  have cut : ∀ (A B D : List AV), A.length = o * m → B.length = len * m → ((A ++ (B ++ D)).drop (o * m)).take (len * m) = B := by
    intro A B D hA hB
    rw [← hA, List.drop_left, ← hB, List.take_left]
  rw [e4, cut _ _ _ e2 e3]

theorem src_spec (hr : Rel wc ok0 fp ι h w) {m : Nat} {l : List (List AV)} {p : Prop} (hs : srcA h m x = some (l, p)) (hp : p) (hd : Den w (okN wc ok0 ι h) ι x v) :
    ∃ ad cap news, v = .slice ad l.length cap ∧ (ad = none → l = []) ∧ DenL w (okN wc ok0 ι h) [] l.flatten news ∧ (∀ A, ad = some A → ∀ j u, news[j]? = some u → w.cell? (A.add j) = some u) ∧
      (∀ r ∈ l, r.length = m) ∧ l.flatten.all one = true := by
  cases x <;> simp only [srcA, reduceCtorEq] at hs
  case xs m' l' =>
    simp only [Option.some.injEq, Prod.mk.injEq] at hs
    obtain ⟨rfl, rfl⟩ := hs
    subst hp
    obtain ⟨a, cap, rfl, hcap, hrows⟩ := hd
    obtain ⟨h1, h2⟩ := denRows_facts hrows
    cases l' with
    | nil => exact ⟨a, cap, [], rfl, fun _ => rfl, rfl, fun A _ j u hu => by simp at hu, h1, h2⟩
    | cons r l' =>
      obtain ⟨⟨_, ad, rfl, hspot, _⟩, _⟩ := id hrows
      obtain ⟨ab, ao, asp⟩ := ad
      simp only at hspot; subst hspot
      obtain ⟨vs, hv1, hv2⟩ := (denRows_reads hrows).list
      refine ⟨_, cap, vs, rfl, fun e => by (cases e), hv1, fun A hA j u hu => ?_, h1, h2⟩
      cases hA
      rw [add_eq]; simpa using hv2 j u hu
  case own n m' o' len =>
    split at hs
    · rename_i e m2 fl l' hn
      simp only [Option.some.injEq, Prod.mk.injEq] at hs
      obtain ⟨rfl, rfl⟩ := hs
      obtain ⟨rfl, rfl, hle⟩ := hp
      obtain ⟨b, c, ad, hb, h1, h2, rfl⟩ := hd
      have hat := hr.get hn rfl hb
      obtain ⟨hreads, hrl⟩ := reads_cells hat
      obtain ⟨cells, fz, vs, g1, g2, g3, g4, g5, g6, g7, g8, g9⟩ := hat
      have hlenl : ((l'.drop o').take len).length = len := by simp; omega
      have hflat := flatten_cut (o := o') (len := len) hrl hle
      obtain ⟨us, hu1, hu2⟩ := ((hreads.drop (o' * m2))).list
      have hall : ((l'.drop o').take len).flatten.all one = true := by
        rw [List.all_eq_true] at g9 ⊢
        intro y hy
        rw [hflat] at hy
        exact g9 y (List.mem_of_mem_drop (List.mem_of_mem_take hy))
      refine ⟨some ⟨b, ad, none⟩, c - o', us.take (len * m2), by rw [hlenl], fun e => by (cases e), ?_, fun A hA j u hu => ?_, fun r hr => hrl r (List.mem_of_mem_drop (List.mem_of_mem_take hr)), hall⟩
      · rw [hflat]
        have hul := denL_length hu1
        refine denL_iff.2 ⟨by simp only [List.length_take, hul], fun i y hy => ?_⟩
        rw [List.getElem?_take] at hy ⊢
        split at hy
        · rename_i hlt; rw [if_pos hlt]; exact (denL_iff.1 hu1).2 i y hy
        · cases hy
      · cases hA
        rw [List.getElem?_take] at hu
        split at hu
        · rename_i hlt
          have : len ≠ 0 := by rintro rfl; simp at hlt
          rw [add_eq, h2 (by omega)]
          have := hu2 j u hu
          simpa using this
        · cases hu
    · cases hs
  case nilsl =>
    simp only [Option.some.injEq, Prod.mk.injEq] at hs
    obtain ⟨rfl, rfl⟩ := hs
    simp only [Den] at hd
    exact ⟨none, 0, [], hd, fun _ => rfl, rfl, fun A hA => by (cases hA), by simp, rfl⟩
  case zsl =>
    simp only [Option.some.injEq, Prod.mk.injEq] at hs
    obtain ⟨rfl, rfl⟩ := hs
    obtain ⟨a, rfl⟩ := hd
    exact ⟨a, 0, [], rfl, fun _ => rfl, rfl, fun A hA j u hu => by simp at hu, by simp, rfl⟩

theorem denL_app {ok : Nat → Prop} : ∀ {as bs : List AV} {us vs : List Value}, DenL w ok ι as us → DenL w ok ι bs vs → DenL w ok ι (as ++ bs) (us ++ vs)
  | [], bs, us, vs, h, h' => by simp only [DenL] at h; subst h; exact h'
  | a :: as, bs, us, vs, ⟨u, us', e, h, hs⟩, h' => by subst e; exact ⟨u, us' ++ vs, rfl, h, denL_app hs h'⟩

/-- A block's cells, of rows and room behind them. -/
theorem rowsAt {ok : Nat → Prop} {b c e m : Nat} {l : List (List AV)} {vs : List Value} {cells : Array Value} (hb : w.heap[b]? = some (.cells cells e)) (hsz : cells.size = c * m) (hc : c ≤ maxLen)
    (ht : cells.toList.take vs.length = vs) (hd : DenL w ok [] l.flatten vs) (hl : ∀ r ∈ l, r.length = m) (h1 : l.flatten.all one = true) : BlkAt w ok ι b c (.rows e m 1 l) :=
  ⟨cells, (0, 0), vs, hb, fun _ => .inl (Nat.le_refl _), ⟨fun _ => rfl, fun e => by simp at e⟩, hsz, hc, ht, hd, hl, h1⟩

/-- What an append is onto: what is there; the name that it takes up. -/
def ontoA (hp : List Blk) (e m : Nat) : AV → Option (List (List AV) × Option Nat × Prop)
  | .nilsl => some ([], none, True)
  | .zsl => some ([], none, True)
  | .own n m' 0 len => match hp[n]? with
    | some (.rows e' m2 1 l) => some (l, some n, e' = e ∧ m' = m ∧ m2 = m ∧ l.length = len)
    | _ => none
  | _ => none

def killA : Option Nat → List Blk → List Blk
  | some n, hp => hp.set n .dead
  | none, hp => hp

theorem killA_length (n : Option Nat) (hp : List Blk) : (killA n hp).length = hp.length := by cases n <;> simp [killA]

/-- The result of an append. -/
def grownA (hp : List Blk) (e m : Nat) (k : Option Nat) (l : List (List AV)) : AV × List Blk := (.own hp.length m 0 l.length, killA k hp ++ [.rows e m 1 l])

theorem denL_nil {ok ok' : Nat → Prop} (hk : Keeps w ok w' ok') {cs : List AV} {vs : List Value} (h : DenL w ok [] cs vs) : DenL w' ok' [] cs vs := h.keep' hk (carried_refl _)

/-- Append: the world, by cases, is one with a new block, or with its own row written; in each the result is as told. -/
theorem append_end (hr : Rel wc ok0 fp ι h w) {e m : Nat} {xa : AV} {k : Option Nat} {l0 l1 : List (List AV)} {p : Prop} (ho : ontoA h e m xa = some (l0, k, p)) (hp : p) (hd : Den w (okN wc ok0 ι h) ι xa v)
    {news : List Value} (hn : DenL w (okN wc ok0 ι h) [] l1.flatten news) (hl1 : ∀ r ∈ l1, r.length = m) (ho1 : l1.flatten.all one = true) (hmax : l0.length + l1.length ≤ maxLen) (hpos : k = none → 1 ≤ l1.length)
    {Z : Array Value} (hZ : Z.size = m) {run : Result Value}
    (hnil : v = .slice none 0 0 → run = .ok (.slice (some ⟨w.heap.size, 0, none⟩) l1.length (grownCap w l1.length 0 e)) (w.drew.alloc (.cells (news.toArray ++ Builtin.zeroCells Z (grownCap w l1.length 0 e - l1.length)) e)))
    (hroom : ∀ (g cap : Nat) (cur : Array Value), v = .slice (some ⟨g, 0, none⟩) l0.length cap → w.heap[g]? = some (.cells cur e (0, 0)) → l0.length + l1.length ≤ cap → l0.length * m + news.length ≤ cur.size →
      run = .ok (.slice (some ⟨g, 0, none⟩) (l0.length + l1.length) cap) (w.setRow g (cur.toList.take (l0.length * m) ++ news ++ cur.toList.drop (l0.length * m + news.length)).toArray))
    (hstay : ∀ A cap, v = .slice (some A) l0.length cap → l1 = [] → l0 = [] → run = .ok v w)
    (hgrow : ∀ (A : Addr) (cap : Nat) (olds : List Value), v = .slice (some A) l0.length cap → olds.length = l0.length * m → (∀ j u, olds[j]? = some u → w.cell? (A.add j) = some u) → cap < l0.length + l1.length →
      run = .ok (.slice (some ⟨w.heap.size, 0, none⟩) (l0.length + l1.length) (grownCap w (l0.length + l1.length) cap e)) (w.drew.alloc (.cells (olds.toArray ++ news.toArray ++ Builtin.zeroCells Z (grownCap w (l0.length + l1.length) cap e - (l0.length + l1.length))) e))) :
    ∃ v' w' ι', run = .ok v' w' ∧ Rel wc ok0 fp ι' (grownA h e m k (l0 ++ l1)).2 w' ∧ Keeps w (okN wc ok0 ι h) w' (okN wc ok0 ι' (grownA h e m k (l0 ++ l1)).2) ∧ Carried id ι ι' ∧
      Den w' (okN wc ok0 ι' (grownA h e m k (l0 ++ l1)).2) ι' (grownA h e m k (l0 ++ l1)).1 v' := by
  have hnl : news.length = l1.length * m := by rw [← denL_length hn, flatten_len hl1]
  -- a new block, of what was there and what comes
  have fresh : ∀ (h0 : List Blk) (cap : Nat) (olds : List Value), h0.length = h.length → Rel wc ok0 fp ι h0 w → Keeps w (okN wc ok0 ι h) w (okN wc ok0 ι h0) → DenL w (okN wc ok0 ι h) [] l0.flatten olds → (∀ r ∈ l0, r.length = m) → l0.flatten.all one = true →
      run = .ok (.slice (some ⟨w.heap.size, 0, none⟩) (l0.length + l1.length) (grownCap w (l0.length + l1.length) cap e)) (w.drew.alloc (.cells (olds.toArray ++ news.toArray ++ Builtin.zeroCells Z (grownCap w (l0.length + l1.length) cap e - (l0.length + l1.length))) e)) →
      ∃ v' w' ι', run = .ok v' w' ∧ Rel wc ok0 fp ι' (h0 ++ [.rows e m 1 (l0 ++ l1)]) w' ∧ Keeps w (okN wc ok0 ι h) w' (okN wc ok0 ι' (h0 ++ [.rows e m 1 (l0 ++ l1)])) ∧ Carried id ι ι' ∧
        Den w' (okN wc ok0 ι' (h0 ++ [.rows e m 1 (l0 ++ l1)])) ι' (.own h.length m 0 (l0 ++ l1).length) v' := by
    intro h0 cap olds hlen hr0 hk0 hdo hlo hoo hrun
    have hol : olds.length = l0.length * m := by rw [← denL_length hdo, flatten_len hlo]
    have hge := grownCap_ge w (l0.length + l1.length) cap e
    have hcm : grownCap w (l0.length + l1.length) cap e ≤ maxLen := grownCap_le_maxLen w _ cap e hmax
    obtain ⟨hr', hk'⟩ := hr0.fresh (w' := w.drew.alloc (.cells (olds.toArray ++ news.toArray ++ Builtin.zeroCells Z (grownCap w (l0.length + l1.length) cap e - (l0.length + l1.length))) e)) (c := grownCap w (l0.length + l1.length) cap e) (blk := .rows e m 1 (l0 ++ l1)) rfl rfl rfl rfl (by
      intro ok' ι' hk _ hb
      refine rowsAt (vs := olds ++ news) hb ?_ hcm ?_ ?_ (fun r hr => ?_) ?_
      · simp only [Array.size_append, List.size_toArray, size_zeroCells, hZ, hol, hnl, ← Nat.add_mul]
        congr 1; omega
      · simp only [Array.toList_append]
        exact List.take_left
      · rw [List.flatten_append]
        exact denL_app (denL_nil hk (denL_nil hk0 hdo)) (denL_nil hk (denL_nil hk0 hn))
      · rcases List.mem_append.1 hr with h1 | h1
        · exact hlo r h1
        · exact hl1 r h1
      · rw [List.flatten_append, List.all_append, hoo, ho1]; rfl)
    refine ⟨_, _, _, hrun, hr', fun b hb hlt => ?_, carried_append _ _, ?_⟩
    · obtain ⟨e1, e2⟩ := hk0 b hb hlt
      exact hk' b e2 hlt
    · refine ⟨w.heap.size, grownCap w (l0.length + l1.length) cap e, 0, by rw [← hr.len]; simp, by simp; exact hge, fun _ => by simp, by simp⟩
  cases xa <;> simp only [ontoA, reduceCtorEq] at ho
  case nilsl =>
    simp only [Option.some.injEq, Prod.mk.injEq] at ho
    obtain ⟨rfl, rfl, rfl⟩ := ho
    simp only [Den] at hd
    exact fresh h 0 [] rfl hr (Keeps.refl _ _) rfl (by simp) rfl (by simpa using hnil hd)
  case zsl =>
    simp only [Option.some.injEq, Prod.mk.injEq] at ho
    obtain ⟨rfl, rfl, rfl⟩ := ho
    obtain ⟨a, rfl⟩ := hd
    have h1 := hpos rfl
    cases a with
    | none => exact fresh h 0 [] rfl hr (Keeps.refl _ _) rfl (by simp) rfl (by simpa using hnil rfl)
    | some A => exact fresh h 0 [] rfl hr (Keeps.refl _ _) rfl (by simp) rfl (hgrow A 0 [] rfl (by simp) (by simp) (by simp; omega))
  case own n m' o' len =>
    split at ho
    · rename_i heq; cases heq
    · rename_i heq; cases heq
    · rename_i n' m0 len' heq
      cases heq
      split at ho
      · rename_i e' m2 l hh
        simp only [Option.some.injEq, Prod.mk.injEq] at ho
        obtain ⟨rfl, rfl, rfl⟩ := ho
        obtain ⟨rfl, rfl, rfl, rfl⟩ := hp
        obtain ⟨b, c, ad, hb, h1, h2, rfl⟩ := hd
        have hat := hr.get hh rfl hb
        obtain ⟨cells, fz, vs, g1, g2, g3, g4, g5, g6, g7, g8, g9⟩ := hat
        have hfz := g3.1 rfl
        subst hfz
        have hvl : vs.length = l.length * m2 := by rw [← denL_length g7, flatten_len g8]
        obtain ⟨hr0, hk0⟩ := hr.drop n
        rcases Nat.lt_or_ge (c - 0) (l.length + l1.length) with hc | hc
        · refine fresh (h.set n .dead) (c - 0) vs (by simp) hr0 hk0 g7 g8 g9 (hgrow _ _ vs rfl hvl (fun j u hu => ?_) hc)
          have hjl := (List.getElem?_eq_some_iff.1 hu).1
          have hl0 : l.length ≠ 0 := by intro e; rw [hvl, e] at hjl; simp at hjl
          rw [add_eq, h2 (by omega)]
          simp only [World.cell?, g1]
          rw [← g6, List.getElem?_take, if_pos hjl] at hu
          simpa using hu
        · by_cases hz : c = 0
          · -- nothing there, and nothing comes
            have hl0 : l = [] := List.eq_nil_of_length_eq_zero (by omega)
            have hl1' : l1 = [] := List.eq_nil_of_length_eq_zero (by omega)
            subst hl0; subst hl1'
            obtain ⟨hr', hk'⟩ := hr.rename hb hh rfl
            refine ⟨_, w, _, hstay _ _ rfl rfl rfl, hr', hk', carried_append _ _, ?_⟩
            exact ⟨b, c, ad, by rw [← hr.len]; simp, by simpa using h1, h2, by simp⟩
          · have had : ad = 0 := by have := h2 (by omega); simpa using this
            subst had
            have hfit : l.length * m2 + news.length ≤ cells.size := by rw [hnl, g4, ← Nat.add_mul]; exact Nat.mul_le_mul_right _ (by omega)
            have hrun := hroom b (c - 0) cells rfl g1 (by omega) hfit
            have hw1 := setRow_heap w b cells (cells.toList.take (l.length * m2) ++ news ++ cells.toList.drop (l.length * m2 + news.length)).toArray e' (0, 0) g1
            obtain ⟨hr1, hk1⟩ := hr.turn (w' := w.setRow b (cells.toList.take (l.length * m2) ++ news ++ cells.toList.drop (l.length * m2 + news.length)).toArray) (blk' := .rows e' m2 1 (l ++ l1)) hb hh rfl rfl rfl rfl rfl (by simp) (fun k hk => setRow_other w b k _ hk) (by
              intro hk
              refine rowsAt (vs := vs ++ news) hw1 ?_ g5 ?_ ?_ (fun r hr => ?_) ?_
              · simp only [List.size_toArray, List.length_append, List.length_take, List.length_drop, Array.length_toList]
                omega
              · rw [show l.length * m2 = vs.length from hvl.symm, g6]
                exact List.take_left
              · rw [List.flatten_append]
                exact denL_app (denL_nil hk g7) (denL_nil hk hn)
              · rcases List.mem_append.1 hr with h3 | h3
                · exact g8 r h3
                · exact hl1 r h3
              · rw [List.flatten_append, List.all_append, g9, ho1]; rfl)
            obtain ⟨hr', hk'⟩ := hr1.rename hb (by rw [List.getElem?_set_self (List.getElem?_eq_some_iff.1 hh).1]) rfl
            rw [List.set_set] at hr' hk'
            refine ⟨_, _, _, hrun, hr', fun k hk hlt => ?_, carried_append _ _, ?_⟩
            · obtain ⟨e1, e2⟩ := hk1 k hk hlt
              obtain ⟨e3, e4⟩ := hk' k e2 (by simpa using hlt)
              exact ⟨e3.trans e1, e4⟩
            · refine ⟨b, c, 0, by rw [← hr.len]; simp, by simp; omega, fun _ => by simp, by simp⟩
      · cases ho
    · cases ho

/-- Append of a slice's elements. -/
def appendA (hp : List Blk) (I : TyI) (xa xb : AV) : Option (AV × List Blk × Prop) :=
  match I.sh with
  | .slice e m by' _ => match ontoA hp e m xa with
    | some (l0, k, p) => match srcA hp m xb with
      | some (l1, q) => some ((grownA hp e m k (l0 ++ l1)).1, (grownA hp e m k (l0 ++ l1)).2, p ∧ q ∧ l0.length + l1.length ≤ maxLen ∧ (l0.length + l1.length) * by' ≤ 140737488355328 ∧ (match k with | none => 1 ≤ l1.length | some _ => True))
      | none => none
    | none => none
  | _ => none

theorem run_append_none (w : World) {t ty e : TypeId} {i : TypeInfo} (ht : P.underlying t = some (.slice e)) (hi : P.info? e = some i) {A : Option Addr} {n cap c : Nat} (hn : n ≤ cap) (b : Option Addr) :
    (Builtin.append_ #[t, t] ty #[.slice A n cap, .slice b 0 c]).run P w = .ok (.slice A n cap) w := by
  cases A <;> cases b <;> simp [Builtin.append_, run_underlying ht, Go.sizeOf, typeInfo, hi, Builtin.lenOf, Builtin.firstCells, loadCells, loadCellsFrom, storeCells, hn]

theorem does_append {t : TypeId} {I : TyI} {a b : Operand} {xa xb : AV} {p : Prop} (ho : o.op = .call { callee := .builtin .append, args := #[a, b], argTypes := #[t, t] }) (hI : tyi P t = some I) (hr : Rel wc ok0 fp ι h w)
    (ha : Den w (okN wc ok0 ι h) ι xa (ρ a)) (hb : Den w (okN wc ok0 ι h) ι xb (ρ b)) (hl : appendA h I xa xb = some (x, h', p)) (hp : p) : Does P ρ o wc ok0 fp ι h w x h' := by
  unfold appendA at hl
  split at hl
  · rename_i e m by' zr hsh
    split at hl
    · rename_i l0 k p0 hon
      split at hl
      · rename_i l1 q hsrc
        simp only [Option.some.injEq, Prod.mk.injEq] at hl
        obtain ⟨rfl, rfl, rfl⟩ := hl
        obtain ⟨hp0, hq, hmax, hby, hpos⟩ := hp
        obtain ⟨hu, ie, ze, hie, hz, hsz, hbytes, hzs, hzr⟩ := tyi_slice hI hsh
        obtain ⟨ad, cap, news, hv, hnone, hnews, hcells, hrl, hone⟩ := src_spec hr hsrc hq hb
        have hnl : news.length = l1.length * ie.size := by rw [← denL_length hnews, flatten_len hrl, hsz]
        have hex : ∀ v w', (Builtin.append_ #[t, t] o.type #[ρ a, ρ b]).run P w = .ok v w' → (execOp ρ o).run P w = .ok (.value v) w' := by
          intro v w' hv'; simp [execOp, ho, resolve, invoke, builtin, hv']
        have h63 : ∀ n : Nat, n ≤ l0.length + l1.length → (n : Int) ≤ 9223372036854775807 := by intro n hn; simp only [maxLen] at hmax; omega
        have hfit : ∀ c : Nat, c < l0.length + l1.length → Builtin.nextslicecap (l0.length + l1.length) c * ie.bytes ≤ 281474976710656 := fun c hc => growslice_fits hc (by rw [hbytes]; exact hby)
        have hpos' : k = none → 1 ≤ l1.length := by intro e; subst e; exact hpos
        obtain ⟨v', w', ι', hrun, h1, h2, h3, h4⟩ := append_end (v := ρ a) (run := (Builtin.append_ #[t, t] o.type #[ρ a, ρ b]).run P w) (Z := ze.cells) hr hon hp0 ha hnews hrl hone hmax hpos' hzs
          (fun hnil => by
            rw [hnil, hv]
            have h0 : 0 < l1.length := by
              rcases Nat.eq_zero_or_pos l1.length with hz0 | hz0
              · cases k with
                | none => exact hpos
                | some n =>
                  exfalso
                  cases xa <;> simp only [ontoA, reduceCtorEq, Option.some.injEq, Prod.mk.injEq, false_and, and_false] at hon
                  case own =>
                    obtain ⟨_, _, _, _, _, _, e⟩ := ha
                    rw [hnil] at e; cases e
              · exact hz0
            cases ad with
            | none => rw [hnone rfl] at h0; simp at h0
            | some A =>
              have hnx : ¬ (l0.length + l1.length ≤ 0) := by omega
              exact run_append_nil (P := P) w t o.type e ie ze hu hie hz A l1.length cap news hnl (hcells A rfl) h0 (h63 _ (by omega)) (by
                rw [hbytes]
                have : l1.length * by' ≤ (l0.length + l1.length) * by' := Nat.mul_le_mul_right _ (by omega)
                omega))
          (fun g cp cur hva hg hroom hfitc => by
            rw [hva, hv]
            cases ad with
            | none =>
              have := hnone rfl
              subst this
              have hn0 : news = [] := List.eq_nil_of_length_eq_zero (by simpa using hnl)
              subst hn0
              rw [List.length_nil, run_append_none (P := P) w hu hie (by simpa using hroom)]
              simp only [List.append_nil, List.length_nil, Nat.add_zero, List.take_append_drop, Array.toArray_toList]
              rw [setRow_self w g cur e (0, 0) hg]
            | some A =>
              subst hsz
              exact run_append_room (P := P) w t o.type e ie hu hie g l0.length cp cur hg A l1.length cap news hnl (hcells A rfl) (fun u hu' => by
                obtain ⟨i, hi, rfl⟩ := List.getElem_of_mem hu'
                have hx := denL_length hnews
                obtain ⟨u', hu1, hd1⟩ := (denL_iff.1 hnews).2 i (l1.flatten[i]'(by omega)) (List.getElem?_eq_getElem (by omega))
                rw [List.getElem?_eq_getElem hi] at hu1
                cases hu1
                exact (one_spec (List.all_eq_true.1 hone _ (List.getElem_mem _)) hd1).1) hroom hfitc)
          (fun A cp hva h1 h0 => by
            subst h1; subst h0
            rw [hva, hv]
            exact run_append_none (P := P) w hu hie (Nat.zero_le _) ad)
          (fun A cp olds hva hol holds hlt => by
            rw [hva, hv]
            subst hsz
            cases ad with
            | none =>
              have := hnone rfl
              subst this
              have := ha
              exfalso
              -- no room for what is there
              rw [hva] at this
              cases xa <;> simp only [ontoA, reduceCtorEq, Option.some.injEq, Prod.mk.injEq] at hon
              case zsl => obtain ⟨rfl, rfl, _⟩ := hon; simp at hpos
              case nilsl => obtain ⟨rfl, rfl, _⟩ := hon; simp at hpos
              case own n m' o' len =>
                obtain ⟨b', c', ad', _, hle, _, he⟩ := this
                cases he
                simp only [List.length_nil, Nat.add_zero] at hlt
                omega
            | some B => exact run_append_grow (P := P) w t o.type e ie ze hu hie hz A l0.length cp olds hol holds B l1.length cap news hnl (hcells B rfl) hlt (h63 _ (Nat.le_refl _)) (hfit _ hlt))
        exact ⟨v', w', ι', .inl (hex _ _ hrun), h1, h2, h3, h4⟩
      · cases hl
    · cases hl
  · cases hl
end
end SX

/- SX: more of slices: strings as bytes, new slices, parts of own ones. -/
namespace SX
open Go Go.Lib

/-- Bytes as rows. -/
def bytesA (s : List UInt8) : List (List AV) := s.map fun b => [.int .u8 b.toNat]
def strOf (l : List (List AV)) : List UInt8 := l.map fun r => match r with | [.int _ n] => UInt8.ofNat n.toNat | _ => 0

theorem strOf_bytesA (s : List UInt8) : strOf (bytesA s) = s := by
  simp [strOf, bytesA, Function.comp_def]
theorem bytesA_length (s : List UInt8) : (bytesA s).length = s.length := by simp [bytesA]
theorem bytesA_row (s : List UInt8) : ∀ r ∈ bytesA s, r.length = 1 := by
  intro r hr; simp only [bytesA, List.mem_map] at hr; obtain ⟨b, _, rfl⟩ := hr; rfl
theorem bytesA_one (s : List UInt8) : (bytesA s).flatten.all one = true := by
  rw [List.all_eq_true]; intro x hx
  simp only [bytesA, List.mem_flatten, List.mem_map] at hx
  obtain ⟨_, ⟨b, _, rfl⟩, h2⟩ := hx
  simp at h2; subst h2; rfl

section
variable {P : Program} {ρ : Operand → Value} {o : Oper} {wc : World} {ok0 : Nat → Prop} {fp : List Nat} {ι : Names'} {h h' : List Blk} {w w' : World} {x : AV} {v : Value}

theorem den_bytes {ok : Nat → Prop} : ∀ {s : List UInt8} {vs : List Value}, DenL w ok ι (bytesA s).flatten vs ↔ vs = s.map fun b => Value.int .u8 b.toNat
  | [], vs => Iff.rfl
  | b :: s, vs => by
    show DenL w ok ι (.int .u8 b.toNat :: (bytesA s).flatten) vs ↔ _
    simp only [DenL, Den]
    constructor
    · rintro ⟨v, vs', rfl, rfl, h2⟩; rw [den_bytes.1 h2]; rfl
    · rintro rfl; exact ⟨_, _, rfl, rfl, den_bytes.2 rfl⟩

def appendStrA (hp : List Blk) (I : TyI) (J : TyI) (xa : AV) (s : List UInt8) : Option (AV × List Blk × Prop) :=
  match I.sh, J.sh with
  | .slice e 1 1 _, .str => match ontoA hp e 1 xa with
    | some (l0, k, p) => some ((grownA hp e 1 k (l0 ++ bytesA s)).1, (grownA hp e 1 k (l0 ++ bytesA s)).2, p ∧ l0.length + s.length ≤ maxLen ∧ l0.length + s.length ≤ 140737488355328 ∧ (match k with | none => 1 ≤ s.length | some _ => True))
    | none => none
  | _, _ => none

theorem run_append_none_str (w : World) {t u ty e : TypeId} {i : TypeInfo} (ht : P.underlying t = some (.slice e)) (hu : P.underlying u = some .string) (hi : P.info? e = some i) {A : Option Addr} {n cap : Nat} (hn : n ≤ cap) :
    (Builtin.append_ #[t, u] ty #[.slice A n cap, .string ⟨#[]⟩]).run P w = .ok (.slice A n cap) w := by
  have hs : ByteArray.size ⟨#[]⟩ = 0 := rfl
  cases A <;> simp [Builtin.append_, run_underlying ht, run_underlying hu, Go.sizeOf, typeInfo, hi, Builtin.lenOf, Builtin.firstCells, storeCells, hn, hs]

theorem strCells_eq (s : List UInt8) : strCells ⟨s.toArray⟩ = s.map fun b => Value.int .u8 b.toNat := by
  simp [strCells]

theorem does_appendStr {t u : TypeId} {I J : TyI} {a b : Operand} {xa : AV} {s : List UInt8} {p : Prop} (ho : o.op = .call { callee := .builtin .append, args := #[a, b], argTypes := #[t, u] }) (hI : tyi P t = some I) (hJ : tyi P u = some J) (hr : Rel wc ok0 fp ι h w)
    (ha : Den w (okN wc ok0 ι h) ι xa (ρ a)) (hb : Den w (okN wc ok0 ι h) ι (.str s) (ρ b)) (hl : appendStrA h I J xa s = some (x, h', p)) (hp : p) : Does P ρ o wc ok0 fp ι h w x h' := by
  unfold appendStrA at hl
  split at hl
  · rename_i e zr hsh hst
    split at hl
    · rename_i l0 k p0 hon
      simp only [Option.some.injEq, Prod.mk.injEq] at hl
      obtain ⟨rfl, rfl, rfl⟩ := hl
      obtain ⟨hp0, hmax, hby, hpos⟩ := hp
      obtain ⟨hu, ie, ze, hie, hz, hsz, hbytes, hzs, hzr⟩ := tyi_slice hI hsh
      have hus := (tyi_plain hJ).2.2.1 hst
      simp only [Den] at hb
      have hss : ByteArray.size ⟨s.toArray⟩ = s.length := ba_size s
      have hnews : DenL w (okN wc ok0 ι h) [] (bytesA s).flatten (strCells ⟨s.toArray⟩) := den_bytes.2 (strCells_eq s)
      have hex : ∀ v w', (Builtin.append_ #[t, u] o.type #[ρ a, ρ b]).run P w = .ok v w' → (execOp ρ o).run P w = .ok (.value v) w' := by
        intro v w' hv'; simp [execOp, ho, resolve, invoke, builtin, hv']
      have hbl := bytesA_length s
      have h63 : ∀ n : Nat, n ≤ l0.length + s.length → (n : Int) ≤ 9223372036854775807 := by intro n hn; simp only [maxLen] at hmax; omega
      have hfit : ∀ c : Nat, c < l0.length + s.length → Builtin.nextslicecap (l0.length + s.length) c * ie.bytes ≤ 281474976710656 := fun c hc => growslice_fits hc (by rw [hbytes]; omega)
      have hpos' : k = none → 1 ≤ (bytesA s).length := by intro e; subst e; rw [hbl]; exact hpos
      obtain ⟨v', w', ι', hrun, h1, h2, h3, h4⟩ := append_end (v := ρ a) (run := (Builtin.append_ #[t, u] o.type #[ρ a, ρ b]).run P w) (Z := ze.cells) hr hon hp0 ha hnews (bytesA_row s) (bytesA_one s) (by rw [hbl]; exact hmax) hpos' hzs
        (fun hnil => by
          rw [hnil, hb, hbl]
          have h0 : 0 < s.length := by
            rcases Nat.eq_zero_or_pos s.length with hz0 | hz0
            · cases k with
              | none => exact hpos
              | some n =>
                exfalso
                cases xa <;> simp only [ontoA, reduceCtorEq, Option.some.injEq, Prod.mk.injEq, false_and, and_false] at hon
                case own =>
                  obtain ⟨_, _, _, _, _, _, e⟩ := ha
                  rw [hnil] at e; cases e
            · exact hz0
          have := run_append_nil_string (P := P) w t u o.type e ie ze hu hus hie hz ⟨s.toArray⟩ (by rw [hss]; exact h0) (by rw [hss]; exact h63 _ (by omega)) (by rw [hss, hbytes]; omega)
          rw [this, hss]
          congr 3
          simp [strCells])
        (fun g cp cur hva hg hroom hfitc => by
          rw [hva, hb, hbl]
          have := run_append_room_string (P := P) w t u o.type e ie hu hus hie hsz g l0.length cp cur hg ⟨s.toArray⟩ (by rw [hss]; omega) (by rw [strCells_length, hss] at hfitc; rw [hss]; omega)
          rw [this, strCells_length, hss, Nat.mul_one])
        (fun A cp hva h1 h0 => by
          subst h0
          have : s = [] := by cases s with | nil => rfl | cons => simp [bytesA] at h1
          subst this
          rw [hva, hb]
          exact run_append_none_str (P := P) w hu hus hie (Nat.zero_le _))
        (fun A cp olds hva hol holds hlt => by
          rw [hva, hb, hbl]
          rw [hbl] at hlt
          have := run_append_grow_string (P := P) w t u o.type e ie ze hu hus hie hz A l0.length cp olds (by rw [hsz]; exact hol) holds ⟨s.toArray⟩ (by rw [hss]; exact hlt) (by rw [hss]; exact h63 _ (Nat.le_refl _)) (by rw [hss]; exact hfit _ hlt)
          rw [this, hss])
      exact ⟨v', w', ι', .inl (hex _ _ hrun), h1, h2, h3, h4⟩
    · cases hl
  · cases hl

/-- A new slice. -/
def makeA (hp : List Blk) (I : TyI) (l c : Int) : Option (AV × List Blk × Prop) :=
  match I.sh with
  | .slice e m by' zr => if zr.all one = true then some (.own hp.length m 0 l.toNat, hp ++ [.rows e m 1 (List.replicate l.toNat zr)], 0 ≤ l ∧ l ≤ c ∧ (by' : Int) * c ≤ 281474976710656 ∧ c ≤ maxLen ∧ c ≤ 9223372036854775807) else none
  | _ => none

theorem rep_flat {zr : List AV} {m : Nat} (hz : zr.length = m) : ∀ (n : Nat), (List.replicate n zr).flatten.length = n * m
  | 0 => by simp
  | n + 1 => by rw [List.replicate_succ, List.flatten_cons, List.length_append, rep_flat hz n, hz, Nat.add_mul]; omega

theorem rep_get {zr : List AV} {m : Nat} (hz : zr.length = m) : ∀ (n j : Nat), j < n * m → (List.replicate n zr).flatten[j]? = zr[j % m]?
  | 0, j, h => by simp at h
  | n + 1, j, h => by
    rw [List.replicate_succ, List.flatten_cons]
    rcases Nat.lt_or_ge j m with h1 | h1
    · rw [List.getElem?_append_left (by omega), Nat.mod_eq_of_lt h1]
    · rw [List.getElem?_append_right (by omega), hz, rep_get hz n (j - m) (by rw [Nat.add_mul] at h; omega)]
      rw [Nat.mod_eq_sub_mod h1]

theorem den_made {ok : Nat → Prop} {z : Array Value} {m : Nat} (hz : z.size = m) (n k : Nat) (hk : k * m ≤ n) : DenL w ok ι (List.replicate k (z.toList.map cv)).flatten ((madeCells z n).toList.take (k * m)) := by
  have hzl : (z.toList.map cv).length = m := by simp [hz]
  have hl : ((madeCells z n).toList.take (k * m)).length = k * m := by rw [List.length_take, Nat.min_eq_left (by rw [Array.length_toList, size_madeCells]; exact hk)]
  refine denL_iff.2 ⟨by rw [rep_flat hzl, hl], fun j y hy => ?_⟩
  have hj : j < k * m := by have := (List.getElem?_eq_some_iff.1 hy).1; rw [rep_flat hzl] at this; exact this
  have hm : 0 < m := by rcases Nat.eq_zero_or_pos m with h0 | h0; subst h0; simp at hj; exact h0
  rw [rep_get hzl k j hj] at hy
  have hjm : j % m < m := Nat.mod_lt _ hm
  refine ⟨z[j % m]'(by omega), ?_, ?_⟩
  · rw [List.getElem?_take, if_pos hj]
    simp only [madeCells, Array.getElem?_toList, Array.getElem?_map]
    rw [Array.getElem?_eq_getElem (by simp; omega)]
    simp only [Array.getElem_range, Option.map_some, hz]
    rw [getElem!_pos z (j % m) (by omega)]
  · rw [List.getElem?_map, Array.getElem?_toList, Array.getElem?_eq_getElem (by omega)] at hy
    cases hy
    exact den_cv _ _ _ _

theorem does_makeSlice {t : TypeId} {I : TyI} {a b : Operand} {k k' : IntKind} {l c : Int} {p : Prop} (ho : o.op = .makeSlice t a b) (hI : tyi P t = some I) (hr : Rel wc ok0 fp ι h w)
    (ha : Den w (okN wc ok0 ι h) ι (.int k l) (ρ a)) (hb : Den w (okN wc ok0 ι h) ι (.int k' c) (ρ b)) (hl : makeA h I l c = some (x, h', p)) (hp : p) : Does P ρ o wc ok0 fp ι h w x h' := by
  unfold makeA at hl
  split at hl
  · rename_i e m by' zr hsh
    split at hl
    · rename_i hone
      simp only [Option.some.injEq, Prod.mk.injEq] at hl
      obtain ⟨rfl, rfl, rfl⟩ := hl
      obtain ⟨h0, h1, h2, h3, h4⟩ := hp
      obtain ⟨hu, ie, ze, hie, hz, hsz, hbytes, hzs, hzr⟩ := tyi_slice hI hsh
      simp only [Den] at ha hb
      have hrun := run_make (P := P) w t e ie ze hu hie hz k k' l c h0 h1 (by rw [hbytes]; exact h2) h4
      have hcl : l.toNat ≤ c.toNat := by omega
      have hzl : zr.length = m := by rw [hzr]; simp [hzs]
      have hle : l.toNat * m ≤ c.toNat * m := Nat.mul_le_mul_right _ hcl
      obtain ⟨hr', hk'⟩ := hr.fresh (w' := w.alloc (.cells (madeCells ze.cells (c.toNat * ie.size)) e)) (c := c.toNat) (blk := .rows e m 1 (List.replicate l.toNat zr)) rfl rfl rfl rfl (by
        intro ok' ι' hk _ hb'
        refine rowsAt (vs := (madeCells ze.cells (c.toNat * ie.size)).toList.take (l.toNat * m)) hb' (by rw [size_madeCells, hsz]) (by omega) ?_ ?_ (fun r hr => ?_) ?_
        · rw [List.length_take, Nat.min_eq_left (by rw [Array.length_toList, size_madeCells, hsz]; exact hle)]
        · rw [hzr]; exact den_made hzs _ _ (by rw [hsz]; exact hle)
        · rw [(List.mem_replicate.1 hr).2]; exact hzl
        · rw [List.all_eq_true] at hone ⊢
          intro y hy
          obtain ⟨r, hr, hy⟩ := List.mem_flatten.1 hy
          rw [(List.mem_replicate.1 hr).2] at hy
          exact hone y hy)
      have hex : (execOp ρ o).run P w = .ok (.value (.slice (some ⟨w.heap.size, 0, none⟩) l.toNat c.toNat)) (w.alloc (.cells (madeCells ze.cells (c.toNat * ie.size)) e)) := by
        simp only [execOp, ho, ha, hb, Sem.run_bind, hrun, Result.andThen_ok, Sem.run_pure]
      refine ⟨_, _, _, .inl hex, hr', hk', carried_append _ _, ?_⟩
      · exact ⟨w.heap.size, c.toNat, 0, by rw [← hr.len]; simp, by omega, fun _ => by simp, by simp⟩
    · cases hl
  · cases hl

/-- A slice literal: data, or a box of what names own blocks. -/
def buildSliceA (hp : List Blk) (I : TyI) (len : Nat) (ps : List (Nat × AV)) : Option (AV × List Blk) :=
  match I.sh with
  | .slice e m _ zr => if decide (0 < len * m ∧ len * m ≤ 2 ^ 24) = true then
      match fillA (fun i => some (i * m, m)) (List.replicate len zr).flatten ps with
      | some cs => if cs.all nn = true then (if cs.all one = true then some (.own hp.length m 0 len, hp ++ [.rows e m 1 (chunks m len cs)]) else none) else some (.own hp.length m 0 len, hp ++ [.box e cs])
      | none => none
    else none
  | _ => none

theorem fillA_length {place : Nat → Option (Nat × Nat)} : ∀ {ps : List (Nat × AV)} {cs cs' : List AV}, fillA place cs ps = some cs' → cs'.length = cs.length
  | [], cs, cs', h => by simp only [fillA, Option.some.injEq] at h; rw [h]
  | (i, x) :: ps, cs, cs', h => by
    simp only [fillA] at h
    split at h
    · split at h
      · split at h
        · rw [fillA_length h, splice_length]
        · cases h
      · cases h
    · cases h

theorem does_buildSlice {t : TypeId} {I : TyI} {len : Nat} {parts : Array (Nat × Operand)} (ev : Operand → AV) (hev : ∀ x, Den w (okN wc ok0 ι h) ι (ev x) (ρ x)) (ho : o.op = .buildSlice t len parts) (hI : tyi P t = some I) (hr : Rel wc ok0 fp ι h w)
    (hl : buildSliceA h I len (parts.toList.map fun p => (p.1, ev p.2)) = some (x, h')) : Does P ρ o wc ok0 fp ι h w x h' := by
  unfold buildSliceA at hl
  split at hl
  · rename_i e m by' zr hsh
    split at hl
    · rename_i hcond
      simp only [decide_eq_true_eq] at hcond
      split at hl
      · rename_i cs hf
        obtain ⟨hu, ie, ze, hie, hz, hsz, hbytes, hzs, hzr⟩ := tyi_slice hI hsh
        have hzl : zr.length = m := by rw [hzr]; simp [hzs]
        have hmade : DenL w (okN wc ok0 ι h) ι (List.replicate len zr).flatten (madeCells ze.cells (len * m)).toList := by
          have := den_made (w := w) (ok := okN wc ok0 ι h) (ι := ι) hzs (len * m) len (Nat.le_refl _)
          rw [List.take_of_length_le (by rw [Array.length_toList, size_madeCells]; exact Nat.le_refl _)] at this
          rw [hzr]; exact this
        have hparts : ∀ (k : Nat) (p : Nat × AV) (u : Nat × Value), (parts.toList.map fun p => (p.1, ev p.2))[k]? = some p → (parts.toList.map fun p => (p.1, ρ p.2))[k]? = some u → Den w (okN wc ok0 ι h) ι p.2 u.2 := by
          intro k p u hp hu
          rw [List.getElem?_map] at hp hu
          cases hk : parts.toList[k]? with
          | none => rw [hk] at hp; simp at hp
          | some q => rw [hk] at hp hu; simp at hp hu; subst hp; subst hu; exact hev _
        have hm : (parts.toList.map fun p => (p.1, ev p.2)).map (·.1) = (parts.toList.map fun p => (p.1, ρ p.2)).map (·.1) := by simp
        obtain ⟨cells', hfill, hd, hcs⟩ := run_fill hm hparts hmade hf
        have htl : (parts.map fun p => (p.1, ρ p.2)).toList = parts.toList.map fun p => (p.1, ρ p.2) := by simp
        have hrun := run_buildSlice (P := P) w t e len (parts.map fun p => (p.1, ρ p.2)) cells' ie ze hu hie hz (by rw [hsz]; omega) (by rw [hsz]; omega) (by
          rw [htl]
          have : (fun i => some (i * ie.size, ie.size)) = (fun i : Nat => some (i * m, m)) := by funext i; rw [hsz]
          rw [this, hsz]
          exact hfill)
        have hex : (execOp ρ o).run P w = .ok (.value (.slice (some ⟨w.heap.size, 0, none⟩) len len)) (w.alloc (.cells cells' e)) := by
          simp only [execOp, ho, Sem.run_bind, hrun, Result.andThen_ok, Sem.run_pure]
        have hclen : cs.length = len * m := by rw [fillA_length hf, rep_flat hzl]
        have hcsz : cells'.size = len * m := by rw [hcs, size_madeCells]
        have hlm : len ≤ maxLen := by
          have h1 : 0 < m := by rcases Nat.eq_zero_or_pos m with h0 | h0; subst h0; simp at hcond; exact h0
          have h2 : len * 1 ≤ len * m := Nat.mul_le_mul_left _ h1
          simp only [maxLen]; omega
        split at hl
        · rename_i hnn
          split at hl
          · rename_i hone
            simp only [Option.some.injEq, Prod.mk.injEq] at hl
            obtain ⟨rfl, rfl⟩ := hl
            obtain ⟨g1, g2⟩ := chunks_flatten len cs hclen
            obtain ⟨hr', hk'⟩ := hr.fresh (w' := w.alloc (.cells cells' e)) (c := len) (blk := .rows e m 1 (chunks m len cs)) rfl rfl rfl rfl (by
              intro ok' ι' hk hc hb'
              exact rowsAt (vs := cells'.toList) hb' hcsz hlm List.take_length (by rw [g1]; exact nn_denL hnn (hd.keep' hk hc)) g2 (by rw [g1]; exact hone))
            exact ⟨_, _, _, .inl hex, hr', hk', carried_append _ _, w.heap.size, len, 0, by rw [← hr.len]; simp, by omega, fun _ => by simp, by simp⟩
          · cases hl
        · simp only [Option.some.injEq, Prod.mk.injEq] at hl
          obtain ⟨rfl, rfl⟩ := hl
          obtain ⟨hr', hk'⟩ := hr.fresh (w' := w.alloc (.cells cells' e)) (c := len) (blk := .box e cs) rfl rfl rfl rfl (by
            intro ok' ι' hk hc hb'
            exact ⟨cells', (0, 0), hb', .inl (Nat.le_refl _), hd.keep' hk hc⟩)
          exact ⟨_, _, _, .inl hex, hr', hk', carried_append _ _, w.heap.size, len, 0, by rw [← hr.len]; simp, by omega, fun _ => by simp, by simp⟩
      · cases hl
    · cases hl
  · cases hl

/-- A string's bytes, as a new slice. -/
def toBytesA (hp : List Blk) (I : TyI) (s : List UInt8) : Option (AV × List Blk × Prop) :=
  match I.sh with
  | .slice e 1 _ _ => some (.own hp.length 1 0 s.length, hp ++ [.rows e 1 0 (bytesA s)], s.length ≤ maxLen)
  | _ => none

theorem does_toBytes {t d : TypeId} {I J : TyI} {K : TyI} {a : Operand} {s : List UInt8} {e : TypeId} {p : Prop} (ho : o.op = .convert t d a) (hJ : tyi P t = some J) (hst : J.sh = .str) (hI : tyi P d = some I) (hK : (∃ m by' zr, I.sh = .slice e m by' zr) ∧ tyi P e = some K ∧ K.sh = .int .u8) (hr : Rel wc ok0 fp ι h w)
    (ha : Den w (okN wc ok0 ι h) ι (.str s) (ρ a)) (hl : toBytesA h I s = some (x, h', p)) (hp : p) : Does P ρ o wc ok0 fp ι h w x h' := by
  unfold toBytesA at hl
  split at hl
  · rename_i e' by' zr hsh
    simp only [Option.some.injEq, Prod.mk.injEq] at hl
    obtain ⟨rfl, rfl, rfl⟩ := hl
    obtain ⟨⟨m2, by2, zr2, hsh2⟩, hKe, hKs⟩ := hK
    rw [hsh] at hsh2
    cases hsh2
    obtain ⟨hu, ie, ze, hie, hz, hsz, hbytes, hzs, hzr⟩ := tyi_slice hI hsh
    simp only [Den] at ha
    have hss : ByteArray.size ⟨s.toArray⟩ = s.length := ba_size s
    have hrun := Go.Lib.run_convert_string_bytes (P := P) w t d e ⟨s.toArray⟩ ((tyi_plain hJ).2.2.1 hst) hu ((tyi_plain hKe).1 _ hKs)
    have hcap := grownCap_ge w s.length 0 e
    have hcm := grownCap_le_maxLen w s.length 0 e hp
    have hbc : (bytesCells w e ⟨s.toArray⟩).size = grownCap w s.length 0 e := by
      simp only [bytesCells, Array.size_append, Array.size_map, Array.size_replicate, hss, List.size_toArray]
      omega
    have hnewb := bytesWorld_at_new w e ⟨s.toArray⟩
    have hold := bytesWorld_at_old w e ⟨s.toArray⟩
    have hsize := bytesWorld_size w e ⟨s.toArray⟩
    have hk : Keeps w (okN wc ok0 ι h) (bytesWorld w e ⟨s.toArray⟩) (okN wc ok0 (ι ++ [(w.heap.size, grownCap w s.length 0 e)]) (h ++ [.rows e 1 0 (bytesA s)])) := by
      rintro b ⟨hb1, hb2⟩ hlt
      refine ⟨hold b hlt, hb1, fun n c' blk' hn hl he => ?_⟩
      rcases Nat.lt_or_ge n h.length with hlt' | hge
      · rw [List.getElem?_append_left hlt'] at hn
        rw [List.getElem?_append_left (by rw [hr.len]; exact hlt')] at he
        exact hb2 n c' blk' hn hl he
      · rw [List.getElem?_append_right (by rw [hr.len]; exact hge), hr.len] at he
        cases hd : n - h.length with
        | zero => rw [hd] at he; simp at he; omega
        | succ k => rw [hd] at he; simp at he
    obtain ⟨hr', hk'⟩ := hr.more (w' := bytesWorld w e ⟨s.toArray⟩) (c := grownCap w s.length 0 e) (blk := .rows e 1 0 (bytesA s)) rfl rfl rfl (by rw [hsize]; omega) hold (by
      refine ⟨_, _, s.map fun b => Value.int .u8 b.toNat, hnewb, fun _ => .inr (by simp), ⟨fun e => by simp at e, fun e => by simp at e⟩, by rw [hbc]; simp, hcm, ?_, den_bytes.2 rfl, bytesA_row s, bytesA_one s⟩
      simp only [bytesCells, Array.toList_append, Array.toList_map, List.length_map]
      rw [List.take_append_of_le_length (by simp)]
      rw [List.take_of_length_le (by simp)])
    have hex : (execOp ρ o).run P w = .ok (.value (.slice (some ⟨w.heap.size, 0, none⟩) s.length (grownCap w s.length 0 e))) (bytesWorld w e ⟨s.toArray⟩) := by
      rw [hss] at hrun
      simp only [execOp, ho, ha, Sem.run_bind, hrun, Result.andThen_ok, Sem.run_pure]
    exact ⟨_, _, _, .inl hex, hr', hk', carried_append _ _, w.heap.size, grownCap w s.length 0 e, 0, by rw [← hr.len]; simp, by omega, fun _ => by simp, by simp⟩
  · cases hl

/-- Bytes, as a string. -/
def toStrA (hp : List Blk) (xa : AV) : Option (AV × Prop) :=
  match srcA hp 1 xa with
  | some (l, p) => some (.str (strOf l), p ∧ l = bytesA (strOf l))
  | none => none

theorem foldl_push (s : List UInt8) : ∀ (b : ByteArray), (s.map fun b : UInt8 => (b.toNat : Int)).foldl (fun r n => r.push (UInt8.ofNat n.toNat)) b = b ++ ⟨s.toArray⟩ := by
  induction s with
  | nil => intro b; apply ByteArray.ext; simp
  | cons c s ih =>
    intro b
    simp only [List.map_cons, List.foldl_cons]
    rw [ih]
    apply ByteArray.ext
    simp [ByteArray.push]

theorem does_toStr {t d : TypeId} {I J : TyI} {K : TyI} {a : Operand} {xa : AV} {e : TypeId} {p : Prop} (ho : o.op = .convert t d a) (hJ : tyi P d = some J) (hst : J.sh = .str) (hI : tyi P t = some I) (hK : (∃ m by' zr, I.sh = .slice e m by' zr) ∧ tyi P e = some K ∧ K.sh = .int .u8) (hr : Rel wc ok0 fp ι h w)
    (ha : Den w (okN wc ok0 ι h) ι xa (ρ a)) (hl : toStrA h xa = some (x, p)) (hp : p) : Does P ρ o wc ok0 fp ι h w x h := by
  unfold toStrA at hl
  split at hl
  · rename_i l q hsrc
    simp only [Option.some.injEq, Prod.mk.injEq] at hl
    obtain ⟨rfl, rfl⟩ := hl
    obtain ⟨hq, hbytes⟩ := hp
    obtain ⟨⟨m, by', zr, hsh⟩, hKe, hKs⟩ := hK
    obtain ⟨hu, ie, ze, hie, hz, hsz, _, hzs, hzr⟩ := tyi_slice hI hsh
    obtain ⟨ad, cap, news, hv, hnone, hnews, hcells, hrl, hone⟩ := src_spec hr hsrc hq ha
    rw [hbytes] at hnews
    have hn := den_bytes.1 hnews
    have hconv := run_convert_bytes_string (P := P) w t d e ad l.length cap hu ((tyi_plain hKe).1 _ hKs) ((tyi_plain hJ).2.2.1 hst)
    refine Does.quiet hr (v := .string ⟨(strOf l).toArray⟩) ?_ rfl
    simp only [execOp, ho, hv, Sem.run_bind, hconv]
    cases ad with
    | none =>
      have := hnone rfl
      subst this
      simp [Conv.bytesToString, strOf]
      apply ByteArray.ext; simp
    | some A =>
      have hlen : l.length = news.length := by rw [hn, List.length_map]; simp [strOf]
      have hload := run_loadCells_list (P := P) w A news (fun j u hu => hcells A rfl j u hu)
      rw [← hlen, hn] at hload
      have hmap : ((strOf l).map fun b : UInt8 => Value.int .u8 b.toNat) = ((strOf l).map fun b : UInt8 => (b.toNat : Int)).map (Value.int .u8) := by simp
      rw [hmap] at hload
      rw [run_bytesToString w A l.length cap _ hload]
      simp only [Result.andThen_ok, Sem.run_pure, foldl_push]
      simp
  · cases hl

def sliceOwnA (m : Nat) (ev : Operand → AV) (n m' o' len : Nat) (lo hi : Option Operand) : Option (AV × Prop) :=
  match boundA len (hi.map ev) len with
  | some (u, qu) => match boundA u.toNat (lo.map ev) 0 with
    | some (l, ql) => some (.own n m (o' + l.toNat) (u.toNat - l.toNat), m' = m ∧ qu ∧ ql)
    | none => none
  | none => none

/-- A part of an own slice, within its length. -/
theorem does_sliceOwn {t e m by' : Nat} {zr : List AV} {I : TyI} {a : Operand} {lo hi : Option Operand} {n m' o' len : Nat} {p : Prop} (ev : Operand → AV) (hev : ∀ x, Den w (okN wc ok0 ι h) ι (ev x) (ρ x)) (ho : o.op = .slice t a lo hi none)
    (hI : tyi P t = some I) (hk : I.sh = .slice e m by' zr) (hr : Rel wc ok0 fp ι h w) (ha : Den w (okN wc ok0 ι h) ι (.own n m' o' len) (ρ a)) (hl : sliceOwnA m ev n m' o' len lo hi = some (x, p)) (hp : p) :
    Does P ρ o wc ok0 fp ι h w x h := by
  unfold sliceOwnA at hl
  split at hl
  · rename_i u qu hu
    split at hl
    · rename_i l ql hlo
      simp only [Option.some.injEq, Prod.mk.injEq] at hl
      obtain ⟨rfl, rfl⟩ := hl
      obtain ⟨rfl, hqu, hql⟩ := hp
      obtain ⟨hty, ie, ze, hie, _, hsz, _⟩ := tyi_slice hI hk
      obtain ⟨b, c, ad, hb, hle, had, he⟩ := ha
      obtain ⟨hb', hlu, hul⟩ := run_bounds (P := P) (ρ := ρ) ev hev (show len ≤ c - o' by omega) true hu hlo hqu hql
      have hs' : (Go.sizeOf e).run P w = .ok m' w := by rw [run_sizeOf _ hie]; simp [Program.cellsOf, hie, hsz]
      refine Does.quiet hr (v := .slice (if c - o' = l.toNat then some ⟨b, ad, none⟩ else (some (⟨b, ad, none⟩ : Addr)).map (·.add (l.toNat * m'))) (u.toNat - l.toNat) (c - o' - l.toNat)) ?_ ?_
      · simp only [execOp, ho, Option.map_none, Instr.sliceAt, Sem.run_bind, run_underlying hty, Result.andThen_ok, Instr.slice, he, hb', hs', Sem.run_pure]
      · by_cases hc : c - o' = l.toNat
        · refine ⟨b, c, ad, hb, by omega, fun hlt => by omega, ?_⟩
          rw [if_pos hc, show c - (o' + l.toNat) = c - o' - l.toNat by omega]
        · refine ⟨b, c, (o' + l.toNat) * m', hb, by omega, fun _ => rfl, ?_⟩
          rw [if_neg hc, show c - (o' + l.toNat) = c - o' - l.toNat by omega]
          have := had (by omega)
          simp only [Option.map_some, add_eq, this, Nat.add_mul]
    · cases hl
  · cases hl

/-- The lesser, the greater of two whole numbers. -/
def minmaxA (mx : Bool) (a b : AV) : Option AV :=
  match a, b with
  | .int k x, .int k' y => if k = k' then some (.int k (if mx then max x y else min x y)) else none
  | _, _ => none

theorem does_minmax {mx : Bool} {a b : Operand} {tys : Array TypeId} {xa xb : AV} (ho : o.op = .call { callee := .builtin (if mx then .max else .min), args := #[a, b], argTypes := tys }) (hr : Rel wc ok0 fp ι h w)
    (ha : Den w (okN wc ok0 ι h) ι xa (ρ a)) (hb : Den w (okN wc ok0 ι h) ι xb (ρ b)) (hl : minmaxA mx xa xb = some x) : Does P ρ o wc ok0 fp ι h w x h := by
  unfold minmaxA at hl
  split at hl
  · rename_i k x k' y
    split at hl
    · rename_i hk
      subst hk
      simp only [Option.some.injEq] at hl
      subst hl
      simp only [Den] at ha hb
      refine Does.quiet hr (v := .int k (if mx then max x y else min x y)) ?_ rfl
      cases mx
      · simp [execOp, ho, resolve, invoke, builtin, Builtin.min_, Builtin.min2, ha, hb]
        rw [Int.min_def]; split <;> split <;> first | rfl | omega
      · simp [execOp, ho, resolve, invoke, builtin, Builtin.max_, Builtin.max2, ha, hb]
        rw [Int.max_def]; split <;> split <;> first | rfl | omega
    · cases hl
  · cases hl
end
end SX
