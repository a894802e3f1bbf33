/- T21: a part of the proof. -/
import Derived.Test.YtgcggepppeficaaGreatDoorT20
set_option linter.all false
set_option linter.unusedVariables false
set_option linter.unnecessarySimpa false
set_option linter.unusedSimpArgs false
set_option linter.unusedSimpArgs false
namespace T1
open Go SX Go.Proofs
attribute [local go_sem] maxLen

/-- The body of the only field of a kind. -/
def oneOf (l : List Fld) : List Nat → List UInt8 × Int
  | [] => ([], 19)
  | [i] => (((l[i]?).map Fld.body).getD [], 0)
  | _ :: _ :: _ => ([], 24)
def oneF (l : List Fld) (kind : Int) : List UInt8 × Int := oneOf l (fidx kind 0 l)
theorem fidx_lt (kind : Int) : ∀ (l : List Fld) (s i : Nat), i ∈ fidx kind s l → s ≤ i ∧ i < s + l.length
  | [], s, i, h => by simp [fidx] at h
  | f :: l, s, i, h => by
    simp only [fidx] at h
    split at h
    · rcases List.mem_cons.1 h with rfl | h
      · simp
      · have := fidx_lt kind l (s + 1) i h; simp; omega
    · have := fidx_lt kind l (s + 1) i h; simp; omega

set_option maxRecDepth 100000 in
set_option maxHeartbeats 1000000 in
theorem nts_One (l : List Fld) (kind : Int) (hl : l.length < 1000000000000) : ACall Tryz.prog 35 [.xs 2 (l.map Fld.av), .int .i64 kind] [] (resA2 (oneF l kind)) [] := by
  refine acall_ex Tryz.func35 (by kernel_rfl) rfl Tryz.ntmps35 (by simp) fun w ok0 ι hι => ?_
  simp [go_sem]
  refine call_pure (wire_Find l kind hl) rfl rfl rfl rfl rfl ?_
  have hlen := fidx_length kind l 0
  obtain ⟨is, his⟩ : ∃ is, is = fidx kind 0 l := ⟨_, rfl⟩
  rw [← his] at hlen ⊢
  have h1 : oneF l kind = oneOf l is := by rw [his]; rfl
  match is, his with
  | [], his =>
    simp [go_sem]
    refine fin0 (.inl rfl) hι Tryz.results35 ?_
    simp [go_sem, h1, oneOf]
  | [i], his =>
    have hi := fidx_lt kind l 0 i (by rw [← his]; simp)
    obtain ⟨f, hf⟩ : ∃ f, l[i]? = some f := ⟨_, List.getElem?_eq_getElem (by omega)⟩
    simp [go_sem, hf]
    refine ⟨by omega, ?_⟩
    refine fin0 (.inl rfl) hι Tryz.results35 ?_
    simp [go_sem, h1, oneOf, hf]
  | i :: j :: r, his =>
    have e1 : ¬ ((r.length : Int) + 1 + 1 = 0) := by omega
    have e2 : ¬ ((r.length : Int) + 1 + 1 = 1) := by omega
    simp [go_sem, e1, e2]
    refine fin0 (.inl rfl) hι Tryz.results35 ?_
    simp [go_sem, h1, oneOf]

structure Asked where
  p : Pkt
  unique : List UInt8
  cookie : List UInt8
  n : Int
@[go_sem] def Asked.av (a : Asked) : List AV := a.p.av ++ [.str a.unique, .str a.cookie, .int .i64 a.n]
def Asked.zero : Asked := ⟨.zero, [], [], 0⟩
/-- The fields ahead of the first one of a kind. -/
def aheadF (l : List Fld) (kind : Int) : List Fld :=
  match fidx kind 0 l with
  | [] => l
  | i :: _ => l.take i
def holdN (l : List Fld) (k : Nat) (n : Int) (is : List Nat) : Int := is.foldl (fun n i => if (((l[i]?).map Fld.body).getD []).length = k then min (n + 1) 8 else n) n
def serveRead (s : List UInt8) : Asked × Int :=
  if (wireRead s).2 ≠ 0 then (.zero, (wireRead s).2) else
  if (wireRead s).1.version ≠ 4 ∨ (wireRead s).1.mode ≠ 3 then (.zero, 23) else
  let l := aheadF (wireRead s).1.fields 1028
  if (oneF l 260).2 ≠ 0 then (.zero, (oneF l 260).2) else
  if (oneF l 516).2 ≠ 0 then (.zero, (oneF l 516).2) else
  if (oneF l 260).1.length < 32 ∨ 64 < (oneF l 260).1.length ∨ 256 < (oneF l 516).1.length then (.zero, 12) else
  (⟨(wireRead s).1, (oneF l 260).1, (oneF l 516).1, holdN l (oneF l 516).1.length 1 (fidx 772 0 l)⟩, 0)
@[go_sem] def resAsked (r : Asked × Int) : AV := .tup [.agg r.1.av, .int .i64 r.2]
theorem sub_asked0 (e : Int) : SX.Sub (.tup [.agg [.int .i64 0, .int .i64 0, .int .i64 0, .int .i64 0, .int .i64 0, .int .i64 0, .int .u32 0, .int .u32 0, .int .u32 0, .int .u64 0, .int .u64 0, .int .u64 0, .int .u64 0, .nilsl, .str [], .str [], .int .i64 0], .int .i64 e]) (.tup [.agg Asked.zero.av, .int .i64 e]) := by
  refine .tup (.cons (.agg ?_) (.refl _))
  repeat (first | exact SubL.nil | refine .cons (by first | exact .refl _ | exact .nil rfl) ?_)

theorem fieldsOf_le : ∀ (n : Nat) (s : List UInt8) (acc : List Fld), s.length ≤ n → acc.length ≤ 16 → (fieldsOf s acc).1.length ≤ 16
  | 0, s, acc, h, ha => by
    have : s = [] := List.length_eq_zero_iff.1 (by omega)
    subst this
    rw [fieldsOf]; simpa using ha
  | n + 1, s, acc, h, ha => by
    rw [fieldsOf]
    split
    · exact ha
    · rename_i hs
      split
      · simp
      · rename_i hb
        split
        · simp
        · rename_i hc
          refine fieldsOf_le n _ _ ?_ (by simp; omega)
          have hb' : ¬ len2 s < 16 := by
            intro hlt; apply hb; simp [bad2, hlt]
          have := List.length_pos_iff.2 hs
          simp; omega
theorem wireRead_fields (s : List UInt8) : (wireRead s).1.fields.length ≤ 16 := by
  unfold wireRead
  split
  · simp [Pkt.zero]
  · split
    · simp [Pkt.zero]
    · split
      · simp [Pkt.zero]
      · exact fieldsOf_le _ _ _ (Nat.le_refl _) (by simp)

def zc17 : List AV := [.int .i64 0, .int .i64 0, .int .i64 0, .int .i64 0, .int .i64 0, .int .i64 0, .int .u32 0, .int .u32 0, .int .u32 0, .int .u64 0, .int .u64 0, .int .u64 0, .int .u64 0, .nilsl, .str [], .str [], .int .i64 0]
theorem holdN_range (l : List Fld) (k : Nat) (is : List Nat) : 1 ≤ holdN l k 1 is ∧ holdN l k 1 is ≤ 8 := by
  have : ∀ (is : List Nat) (n : Int), 1 ≤ n ∧ n ≤ 8 → 1 ≤ holdN l k n is ∧ holdN l k n is ≤ 8 := by
    intro is
    induction is with
    | nil => intro n h; exact h
    | cons i is ih =>
      intro n h
      simp only [holdN, List.foldl_cons] at ih ⊢
      apply ih
      split <;> omega
  exact this is 1 (by omega)

set_option maxRecDepth 100000 in
set_option maxHeartbeats 4000000 in
theorem serve_read (s : List UInt8) : ACall Tryz.prog 20 [.str s] [] (resAsked (serveRead s)) [] := by
  refine acall_ex Tryz.func20 (by kernel_rfl) rfl Tryz.ntmps20 (by simp) fun w ok0 ι hι => ?_
  simp [go_sem]
  refine call_pure (wire_Read s) rfl rfl rfl rfl rfl ?_
  have hfl := wireRead_fields s
  obtain ⟨p, e, hpe⟩ : ∃ p e, wireRead s = (p, e) := ⟨_, _, rfl⟩
  rw [hpe] at hfl ⊢
  simp only at hfl
  simp [go_sem]
  refine ⟨fun he => ?_, fun he => ?_⟩
  · refine fin0 (.inl rfl) hι Tryz.results20 ?_
    have : serveRead s = (.zero, e) := by simp only [serveRead, hpe]; rw [if_pos he]
    rw [this]; simp only [resAsked]; simp [go_sem]
    exact sub_asked0 e
  subst he
  refine ⟨fun hbad => ?_, fun v1 v2 => ?_⟩
  · have : serveRead s = (.zero, 23) := by
      simp only [serveRead, hpe]; rw [if_neg (by simp), if_pos (by omega)]
    refine fin0 (.inl rfl) hι Tryz.results20 ?_
    rw [this]; simp only [resAsked]; simp [go_sem]
    exact sub_asked0 _
  refine call_pure (wire_Find p.fields 1028 (by omega)) rfl rfl rfl rfl rfl ?_
  cases hq : fidx 1028 0 p.fields with
  | nil =>
    have hah : aheadF p.fields 1028 = p.fields := by simp only [aheadF, hq]
    simp [go_sem]
    have hll : (p.fields).length < 1000000000000 := by omega
    refine call_pure (nts_One (p.fields) 260 hll) rfl rfl rfl rfl rfl ?_
    obtain ⟨u, e1, h1⟩ : ∃ u e1, oneF (p.fields) 260 = (u, e1) := ⟨_, _, rfl⟩
    simp [go_sem, h1]
    refine ⟨fun he => ?_, fun he => ?_⟩
    · have : serveRead s = (.zero, e1) := by
        simp only [serveRead, hpe, hah, h1]; rw [if_neg (by simp), if_neg (by omega), if_pos he]
      refine fin0 (.inl rfl) hι Tryz.results20 ?_
      rw [this]; simp only [resAsked]; simp [go_sem]
      exact sub_asked0 _
    subst he
    refine call_pure (nts_One (p.fields) 516 hll) rfl rfl rfl rfl rfl ?_
    obtain ⟨c, e2, h2⟩ : ∃ c e2, oneF (p.fields) 516 = (c, e2) := ⟨_, _, rfl⟩
    simp [go_sem, h2]
    refine ⟨fun he => ?_, fun he => ?_⟩
    · have : serveRead s = (.zero, e2) := by
        simp only [serveRead, hpe, hah, h1, h2]; rw [if_neg (by simp), if_neg (by omega), if_neg (by simp), if_pos he]
      refine fin0 (.inl rfl) hι Tryz.results20 ?_
      rw [this]; simp only [resAsked]; simp [go_sem]
      exact sub_asked0 _
    subst he
    refine ⟨fun hbad => ?_, fun c1 c2 c3 => ?_⟩
    · have : serveRead s = (.zero, 12) := by
        simp only [serveRead, hpe, hah, h1, h2]; rw [if_neg (by simp), if_neg (by omega), if_neg (by simp), if_neg (by simp), if_pos (by omega)]
      refine fin0 (.inl rfl) hι Tryz.results20 ?_
      rw [this]; simp only [resAsked]; simp [go_sem]
      exact sub_asked0 _
    refine call_pure (wire_Find (p.fields) 772 hll) rfl rfl rfl rfl rfl ?_
    have hlt7 := fidx_lt 772 (p.fields) 0
    have hlen7 := fidx_length 772 (p.fields) 0
    have hfin : serveRead s = (⟨p, u, c, holdN (p.fields) c.length 1 (fidx 772 0 (p.fields))⟩, 0) := by
      simp only [serveRead, hpe, hah, h1, h2]; rw [if_neg (by simp), if_neg (by omega), if_neg (by simp), if_neg (by simp), if_neg (by omega)]
    obtain ⟨is, his⟩ : ∃ is, is = fidx 772 0 (p.fields) := ⟨_, rfl⟩
    rw [← his] at hlt7 hlen7 hfin ⊢
    simp [go_sem]
    refine loop_w (γ := { g : Nat // g ≤ is.length }) (fun g => ⟨[(85, .int .i64 g.1), (84, .int .i64 is.length), (83, .xs 1 (intsA is)), (6, .xs 2 ((p.fields).map Fld.av)), (8, .ptr 2 0), (2, .ptr 0 0)], [.box 64 zc17, .box 48 p.av, .box 64 (p.av ++ [.str u, .str c, .int .i64 (holdN (p.fields) c.length 1 (is.take g.1))])]⟩) (fun g => is.length - g.1) ⟨0, by simp⟩ (by simp [hι]) (by simp [go_sem, List.map_take]) (by simp [go_sem, zc17, holdN]) ?_
    rintro ⟨g, hg⟩
    have hrange := holdN_range (p.fields) c.length (is.take g)
    simp [go_sem, zc17]
    refine ⟨fun hlt => ?_, fun hge => ?_⟩
    · obtain ⟨k, hk⟩ : ∃ k, is[g]? = some k := ⟨_, List.getElem?_eq_getElem hlt⟩
      have hkl := hlt7 k (List.mem_of_getElem? hk)
      obtain ⟨f, hf⟩ : ∃ f, (p.fields)[k]? = some f := ⟨_, List.getElem?_eq_getElem (by omega)⟩
      have hs : IntKind.i64.wrap ((g : Int) + 1) = ((g + 1 : Nat) : Int) := wrapI_succ (by omega)
      have hnext : holdN (p.fields) c.length 1 (is.take (g + 1)) = if f.body.length = c.length then min (holdN (p.fields) c.length 1 (is.take g) + 1) 8 else holdN (p.fields) c.length 1 (is.take g) := by
        rw [List.take_add_one, hk]; simp [holdN, hf]
      obtain ⟨q, hq⟩ : ∃ q, q = holdN (p.fields) c.length 1 (is.take g) := ⟨_, rfl⟩
      rw [← hq] at hnext hrange
      have hq1 : IntKind.i64.wrap (q + 1) = q + 1 := wrapI (by omega)
      simp [go_sem, hk]
      refine ⟨hlt, ?_⟩
      refine draw_ex [] (by kernel_rfl) fun ops1 okD hok => ?_
      simp [go_sem, hf, ← hq, hq1]
      refine ⟨by omega, hok _ (by kernel_rfl), fun heq => ?_, fun hne => ?_⟩
      · rw [if_pos (by omega)] at hnext
        refine next_w ⟨g + 1, by omega⟩ (by simp; omega) (by simp [hι]) (by simp [go_sem, hs, List.map_take]) (by simp [go_sem, hnext, zc17])
      · rw [if_neg (by omega)] at hnext
        refine next_w ⟨g + 1, by omega⟩ (by simp; omega) (by simp [hι]) (by simp [go_sem, hs, List.map_take]) (by simp [go_sem, hnext, hq, zc17])
    · have : g = is.length := by omega
      subst this
      refine out_exit ?_
      simp [go_sem]
      refine fin0 (.inl rfl) hι Tryz.results20 ?_
      rw [hfin]; simp only [resAsked]; simp [go_sem, List.take_length]
  | cons i r =>
    have hah : aheadF p.fields 1028 = p.fields.take i := by simp only [aheadF, hq]
    have hi := fidx_lt 1028 p.fields 0 i (by rw [hq]; simp)
    have hpos : (0 : Int) < (r.length : Int) + 1 := by omega
    simp [go_sem, hpos]
    refine ⟨by omega, ?_⟩
    obtain ⟨l, hl⟩ : ∃ l, l = p.fields.take i := ⟨_, rfl⟩
    have hl16 : l.length ≤ 16 := by rw [hl]; simp; omega
    rw [← hl] at hah
    simp only [← List.map_take, ← hl]
    have hll : (l).length < 1000000000000 := by omega
    refine call_pure (nts_One (l) 260 hll) rfl rfl rfl rfl rfl ?_
    obtain ⟨u, e1, h1⟩ : ∃ u e1, oneF (l) 260 = (u, e1) := ⟨_, _, rfl⟩
    simp [go_sem, h1]
    refine ⟨fun he => ?_, fun he => ?_⟩
    · have : serveRead s = (.zero, e1) := by
        simp only [serveRead, hpe, hah, h1]; rw [if_neg (by simp), if_neg (by omega), if_pos he]
      refine fin0 (.inl rfl) hι Tryz.results20 ?_
      rw [this]; simp only [resAsked]; simp [go_sem]
      exact sub_asked0 _
    subst he
    refine call_pure (nts_One (l) 516 hll) rfl rfl rfl rfl rfl ?_
    obtain ⟨c, e2, h2⟩ : ∃ c e2, oneF (l) 516 = (c, e2) := ⟨_, _, rfl⟩
    simp [go_sem, h2]
    refine ⟨fun he => ?_, fun he => ?_⟩
    · have : serveRead s = (.zero, e2) := by
        simp only [serveRead, hpe, hah, h1, h2]; rw [if_neg (by simp), if_neg (by omega), if_neg (by simp), if_pos he]
      refine fin0 (.inl rfl) hι Tryz.results20 ?_
      rw [this]; simp only [resAsked]; simp [go_sem]
      exact sub_asked0 _
    subst he
    refine ⟨fun hbad => ?_, fun c1 c2 c3 => ?_⟩
    · have : serveRead s = (.zero, 12) := by
        simp only [serveRead, hpe, hah, h1, h2]; rw [if_neg (by simp), if_neg (by omega), if_neg (by simp), if_neg (by simp), if_pos (by omega)]
      refine fin0 (.inl rfl) hι Tryz.results20 ?_
      rw [this]; simp only [resAsked]; simp [go_sem]
      exact sub_asked0 _
    refine call_pure (wire_Find (l) 772 hll) rfl rfl rfl rfl rfl ?_
    have hlt7 := fidx_lt 772 (l) 0
    have hlen7 := fidx_length 772 (l) 0
    have hfin : serveRead s = (⟨p, u, c, holdN (l) c.length 1 (fidx 772 0 (l))⟩, 0) := by
      simp only [serveRead, hpe, hah, h1, h2]; rw [if_neg (by simp), if_neg (by omega), if_neg (by simp), if_neg (by simp), if_neg (by omega)]
    obtain ⟨is, his⟩ : ∃ is, is = fidx 772 0 (l) := ⟨_, rfl⟩
    rw [← his] at hlt7 hlen7 hfin ⊢
    simp [go_sem]
    refine loop_w (γ := { g : Nat // g ≤ is.length }) (fun g => ⟨[(85, .int .i64 g.1), (84, .int .i64 is.length), (83, .xs 1 (intsA is)), (6, .xs 2 ((l).map Fld.av)), (8, .ptr 2 0), (2, .ptr 0 0)], [.box 64 zc17, .box 48 p.av, .box 64 (p.av ++ [.str u, .str c, .int .i64 (holdN (l) c.length 1 (is.take g.1))])]⟩) (fun g => is.length - g.1) ⟨0, by simp⟩ (by simp [hι]) (by simp [go_sem, List.map_take]) (by simp [go_sem, zc17, holdN]) ?_
    rintro ⟨g, hg⟩
    have hrange := holdN_range (l) c.length (is.take g)
    simp [go_sem, zc17]
    refine ⟨fun hlt => ?_, fun hge => ?_⟩
    · obtain ⟨k, hk⟩ : ∃ k, is[g]? = some k := ⟨_, List.getElem?_eq_getElem hlt⟩
      have hkl := hlt7 k (List.mem_of_getElem? hk)
      obtain ⟨f, hf⟩ : ∃ f, (l)[k]? = some f := ⟨_, List.getElem?_eq_getElem (by omega)⟩
      have hs : IntKind.i64.wrap ((g : Int) + 1) = ((g + 1 : Nat) : Int) := wrapI_succ (by omega)
      have hnext : holdN (l) c.length 1 (is.take (g + 1)) = if f.body.length = c.length then min (holdN (l) c.length 1 (is.take g) + 1) 8 else holdN (l) c.length 1 (is.take g) := by
        rw [List.take_add_one, hk]; simp [holdN, hf]
      obtain ⟨q, hq⟩ : ∃ q, q = holdN (l) c.length 1 (is.take g) := ⟨_, rfl⟩
      rw [← hq] at hnext hrange
      have hq1 : IntKind.i64.wrap (q + 1) = q + 1 := wrapI (by omega)
      simp [go_sem, hk]
      refine ⟨hlt, ?_⟩
      refine draw_ex [] (by kernel_rfl) fun ops1 okD hok => ?_
      simp [go_sem, hf, ← hq, hq1]
      refine ⟨by omega, hok _ (by kernel_rfl), fun heq => ?_, fun hne => ?_⟩
      · rw [if_pos (by omega)] at hnext
        refine next_w ⟨g + 1, by omega⟩ (by simp; omega) (by simp [hι]) (by simp [go_sem, hs, List.map_take]) (by simp [go_sem, hnext, zc17])
      · rw [if_neg (by omega)] at hnext
        refine next_w ⟨g + 1, by omega⟩ (by simp; omega) (by simp [hι]) (by simp [go_sem, hs, List.map_take]) (by simp [go_sem, hnext, hq, zc17])
    · have : g = is.length := by omega
      subst this
      refine out_exit ?_
      simp [go_sem]
      refine fin0 (.inl rfl) hι Tryz.results20 ?_
      rw [hfin]; simp only [resAsked]; simp [go_sem, List.take_length]
end T1
