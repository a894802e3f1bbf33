/- SX: from the readings of plain arguments to abstract values, and a law's contract as its row wants it. -/
import Derived.Test.YtgcggepppeficaaGreatDoorSxCall
import Derived.ProofKit
import Derived.OpenShut
import Derived.Deep.Slices
import Derived.Deep.DeepHandedRow
set_option linter.all false
set_option linter.unusedVariables false
set_option linter.unnecessarySimpa false
set_option linter.unusedSimpArgs false
namespace SX
open Go Go.ChangeShapes Go.WideShapes Go.RowKit

def contig (P : Program) : Nat → List Field → Bool
  | _, [] => true
  | o, f :: fs => f.offset == o && contig P (o + P.cellsOf f.type) fs
def sumCells (P : Program) : List Field → Nat
  | [] => 0
  | f :: fs => P.cellsOf f.type + sumCells P fs

/-- Types of plain data: numbers, bools, strings, and slices, structs and arrays of such. -/
def plainT (P : Program) : Nat → TypeId → Bool
  | 0, _ => false
  | n + 1, t => match P.underlying t with
    | some .bool => true
    | some (.int _) => true
    | some .string => true
    | some (.slice e) => decide (0 < P.cellsOf e) && plainT P n e
    | some (.struct fs) => contig P 0 fs.toList && (sumCells P fs.toList == P.cellsOf t && fs.toList.all fun f => plainT P n f.type)
    | some (.array k e) => decide (k * P.cellsOf e = P.cellsOf t) && plainT P n e
    | _ => false

def ShpF (S : TypeId → List AV → Prop) : List Field → List AV → Prop
  | [], avs => avs = []
  | f :: fs, avs => ∃ a b, avs = a ++ b ∧ S f.type a ∧ ShpF S fs b
def ShpN (S : List AV → Prop) : Nat → List AV → Prop
  | 0, avs => avs = []
  | n + 1, avs => ∃ a b, avs = a ++ b ∧ S a ∧ ShpN S n b

/-- What cells of a type read as. -/
def Shp (P : Program) : Nat → TypeId → List AV → Prop
  | 0, _, _ => False
  | n + 1, t, avs => match P.underlying t with
    | some .bool => ∃ b, avs = [.bool b]
    | some (.int k) => ∃ z, avs = [.int k z] ∧ (Lit.int k z).wf = true
    | some .string => ∃ s, avs = [.str s] ∧ s.length ≤ maxLen
    | some (.slice e) => ∃ l, avs = [.xs (P.cellsOf e) l] ∧ l.length ≤ maxLen ∧ ∀ r ∈ l, Shp P n e r
    | some (.struct fs) => ShpF (Shp P n) fs.toList avs
    | some (.array k e) => ShpN (Shp P n e) k avs
    | _ => False

theorem denCells_of {w : World} {ok : Nat → Prop} {b : Nat} (hb : ok b) : ∀ {avs : List AV} {cs : List Value} {o : Nat}, avs.all one = true → DenL w ok [] avs cs → (∀ i v, cs[i]? = some v → w.cell? ⟨b, o + i, none⟩ = some v) → DenCells w ok b o avs
  | [], _, _, _, _, _ => trivial
  | a :: avs, cs, o, h1, ⟨v, vs, e, hd, hs⟩, h => by
    subst e
    simp only [List.all_cons, Bool.and_eq_true] at h1
    refine ⟨⟨v, hb, by simpa using h 0 v rfl, h1.1, hd⟩, denCells_of hb h1.2 hs fun i u hu => ?_⟩
    have := h (i + 1) u (by simpa using hu)
    rw [← this]; congr 2; omega

theorem list_of {α : Type} {Q : Nat → α → Prop} : ∀ n : Nat, (∀ i, i < n → ∃ r, Q i r) → ∃ l : List α, l.length = n ∧ ∀ i r, l[i]? = some r → Q i r
  | 0, _ => ⟨[], rfl, fun i r h => by simp at h⟩
  | n + 1, h => by
    obtain ⟨l, hl, hq⟩ := list_of n fun i hi => h i (by omega)
    obtain ⟨r, hr⟩ := h n (by omega)
    refine ⟨l ++ [r], by simp [hl], fun i x hx => ?_⟩
    rw [List.getElem?_append] at hx
    split at hx
    · exact hq i x hx
    · rename_i hi
      rw [List.getElem?_singleton] at hx
      split at hx
      · have : i = n := by omega
        subst this
        simp only [Option.some.injEq] at hx
        subst hx; exact hr
      · cases hx

theorem denRows_of {w : World} {ok : Nat → Prop} {m : Nat} {ad : Addr} (hs : ad.spot = none) : ∀ {l : List (List AV)} {s : Nat}, (∀ i r, l[i]? = some r → r.length = m ∧ DenCells w ok ad.block (ad.off + (s + i) * m) r) → DenRows w ok m (some ad) s l
  | [], _, _ => trivial
  | r :: l, s, h => ⟨⟨(h 0 r rfl).1, ad, rfl, hs, by simpa using (h 0 r rfl).2⟩, denRows_of hs fun i x hx => by
      have := h (i + 1) x (by simpa using hx)
      rwa [show s + (i + 1) = s + 1 + i by omega] at this⟩

section
variable {H : Type} {enc : TypeId × Value → H} {P : Program} {w : World} {base : Nat} {spare : Nat → Bool} {held : Bool} {ok : Nat → Prop}

theorem shpF_of {S : TypeId → List AV → Prop} {cs : List Value} {T : TypeId → List Value → Prop}
    (hT : ∀ t c, T t c → ∃ avs, S t avs ∧ avs.length = c.length ∧ avs.all one = true ∧ DenL w ok [] avs c) :
    ∀ (fs : List Field) (o : Nat), contig P o fs = true → o + sumCells P fs = cs.length → (∀ f ∈ fs, T f.type ((cs.drop f.offset).take (P.cellsOf f.type))) →
    ∃ avs, ShpF S fs avs ∧ avs.length = cs.length - o ∧ avs.all one = true ∧ DenL w ok [] avs (cs.drop o)
  | [], o, _, h, _ => by
    simp only [sumCells, Nat.add_zero] at h
    exact ⟨[], rfl, by simp [h], rfl, by simp [DenL, h]⟩
  | f :: fs, o, hc, h, hall => by
    simp only [contig, Bool.and_eq_true, beq_iff_eq] at hc
    simp only [sumCells] at h
    obtain ⟨hfo, hc⟩ := hc
    obtain ⟨a, ha1, ha2, ha3, ha4⟩ := hT _ _ (hall f List.mem_cons_self)
    obtain ⟨b, hb1, hb2, hb3, hb4⟩ := shpF_of hT fs (o + P.cellsOf f.type) hc (by omega) (fun g hg => hall g (List.mem_cons_of_mem _ hg))
    rw [hfo] at ha2 ha4
    simp only [List.length_take, List.length_drop] at ha2
    refine ⟨a ++ b, ⟨a, b, rfl, ha1, hb1⟩, by simp; omega, by simp [ha3, hb3], ?_⟩
    have : cs.drop o = (cs.drop o).take (P.cellsOf f.type) ++ cs.drop (o + P.cellsOf f.type) := by
      rw [← List.drop_drop, List.take_append_drop]
    rw [this]
    exact denL_append ha4 hb4

theorem shpN_of {S : List AV → Prop} {cs : List Value} {T : List Value → Prop} {m : Nat}
    (hT : ∀ c, T c → ∃ avs, S avs ∧ avs.length = c.length ∧ avs.all one = true ∧ DenL w ok [] avs c) :
    ∀ (k o : Nat), (o + k) * m = cs.length → (∀ i, i < o + k → T ((cs.drop (i * m)).take m)) →
    ∃ avs, ShpN S k avs ∧ avs.length = cs.length - o * m ∧ avs.all one = true ∧ DenL w ok [] avs (cs.drop (o * m))
  | 0, o, h, _ => ⟨[], rfl, by simp at h; simp [h], rfl, by simp at h; simp [DenL, h]⟩
  | k + 1, o, h, hall => by
    obtain ⟨a, ha1, ha2, ha3, ha4⟩ := hT _ (hall o (by omega))
    have e1 : (o + 1 + k) * m = cs.length := by rw [← h]; congr 1; omega
    obtain ⟨b, hb1, hb2, hb3, hb4⟩ := shpN_of hT k (o + 1) e1 (fun i hi => hall i (by omega))
    have e2 : (o + 1) * m = o * m + m := Nat.succ_mul o m
    have e3 : (o + 1 + k) * m = o * m + m + k * m := by rw [Nat.add_mul, e2]
    simp only [List.length_take, List.length_drop] at ha2
    refine ⟨a ++ b, ⟨a, b, rfl, ha1, hb1⟩, by rw [List.length_append]; omega, by simp [ha3, hb3], ?_⟩
    have : cs.drop (o * m) = (cs.drop (o * m)).take m ++ cs.drop ((o + 1) * m) := by
      rw [e2, ← List.drop_drop, List.take_append_drop]
    rw [this]
    exact denL_append ha4 hb4

/-- A reading of plain data, as abstract cells. -/
theorem shp_of (hok : ∀ b, ok b) : ∀ (n : Nat) (t : TypeId) (fuel : Nat) (cs : List Value) (x : DataW H × List MemPlace), plainT P n t = true → DataW.trod enc P w base spare held fuel t cs = some x →
    ∃ avs, Shp P n t avs ∧ avs.length = cs.length ∧ avs.all one = true ∧ DenL w ok [] avs cs
  | 0, _, _, _, _, h, _ => by simp [plainT] at h
  | n + 1, t, fuel, cs, x, h, hx => by
    unfold plainT at h
    split at h
    · rename_i ht
      obtain ⟨b, rfl, _⟩ := DataW.trod_bool ht hx
      exact ⟨[.bool b], by simp only [Shp, ht]; exact ⟨b, rfl⟩, rfl, rfl, _, _, rfl, rfl, rfl⟩
    · rename_i k ht
      obtain ⟨z, rfl, _, hw⟩ := DataW.trod_int ht hx
      exact ⟨[.int k z], by simp only [Shp, ht]; exact ⟨z, rfl, hw⟩, rfl, rfl, _, _, rfl, rfl, rfl⟩
    · rename_i ht
      obtain ⟨s, rfl, _, hw⟩ := DataW.trod_string ht hx
      exact ⟨[.str s.data.toList], by simp only [Shp, ht]; exact ⟨_, rfl, by simpa using hw⟩, rfl, rfl, _, _, rfl, rfl, rfl⟩
    · rename_i e ht
      simp only [Bool.and_eq_true, decide_eq_true_eq] at h
      rcases DataW.trod_slice ht hx with ⟨rfl, _⟩ | ⟨a, len, cap, elems, rest, m, _, rfl, rfl, hb, hl, hm, hlen, hel, hsp, hns⟩
      · exact ⟨[.xs (P.cellsOf e) []], by simp only [Shp, ht]; exact ⟨[], rfl, by simp, by simp⟩, rfl, rfl, _, _, rfl, ⟨none, 0, rfl, Nat.le_refl _, trivial⟩, rfl⟩
      · have key : ∀ i, i < len → ∃ r : List AV, Shp P n e r ∧ r.length = P.cellsOf e ∧ a.spot = none ∧ DenCells w ok a.block (a.off + i * P.cellsOf e) r := fun i hi => by
          have h1 := hel i hi
          rw [List.getElem?_eq_getElem (by omega)] at h1
          obtain ⟨cs', h2, h3⟩ := Option.bind_eq_some_iff.1 h1
          obtain ⟨r, hr1, hr2, hr3, hr4⟩ := shp_of hok n e m cs' _ h.2 h3
          obtain ⟨_, hcl, hcc⟩ := World.cells?_some h2
          have hspot : a.spot = none := by
            have h0 : 0 < cs'.length := by omega
            have h5 := hel 0 (by omega)
            rw [List.getElem?_eq_getElem (by omega)] at h5
            obtain ⟨cs0, h6, h7⟩ := Option.bind_eq_some_iff.1 h5
            obtain ⟨_, hcl0, hcc0⟩ := World.cells?_some h6
            have h8 := hcc0 0 (by omega)
            rw [List.getElem?_eq_getElem (by omega)] at h8
            simp only [Nat.zero_mul, Addr.add, if_pos] at h8
            unfold World.cell? at h8
            split at h8
            · split at h8
              · cases h8
              · rename_i hsp'; simpa using hsp'
            · cases h8
          refine ⟨r, hr1, by omega, hspot, denCells_of (hok _) hr3 hr4 fun j v hv => ?_⟩
          have hj := hcc j (by rw [← hcl]; exact (List.getElem?_eq_some_iff.1 hv).1)
          rw [hv] at hj
          rw [← hj]
          obtain ⟨ab, ao, asp⟩ := a
          simp only at hspot; subst hspot
          congr 1
          simp only [Addr.add]
          split <;> split <;> simp_all
        obtain ⟨l, hll, hq⟩ := list_of len key
        refine ⟨[.xs (P.cellsOf e) l], by simp only [Shp, ht]; exact ⟨l, rfl, by omega, fun r hr => by obtain ⟨i, hi⟩ := List.mem_iff_getElem?.1 hr; exact (hq i r hi).1⟩, rfl, rfl, _, _, rfl, ⟨some a, cap, by rw [hll], by omega, ?_⟩, rfl⟩
        cases hl0 : l with
        | nil => trivial
        | cons r0 l0 =>
          rw [← hl0]
          refine denRows_of (hq 0 r0 (by rw [hl0]; rfl)).2.2.1 fun i r hr => ⟨(hq i r hr).2.1, ?_⟩
          have := (hq i r hr).2.2.2
          rwa [Nat.zero_add]
    · rename_i fs ht
      simp only [Bool.and_eq_true, beq_iff_eq, List.all_eq_true] at h
      obtain ⟨xs, m, _, _, hcl, hxl, hf⟩ := DataW.trod_struct ht hx
      obtain ⟨avs, h1, h2, h3, h4⟩ := shpF_of (P := P) (w := w) (ok := ok) (S := Shp P n) (cs := cs) (T := fun t c => plainT P n t = true ∧ ∃ y, DataW.trod enc P w base spare held m t c = some y)
        (fun t c ⟨hp, y, hy⟩ => shp_of hok n t m c y hp hy) fs.toList 0 h.1 (by omega) (fun f hf' => ⟨h.2.2 f hf', by
          obtain ⟨i, hi⟩ := List.mem_iff_getElem?.1 hf'
          have hi' : fs[i]? = some f := by simpa using hi
          have := hf i f hi'
          rw [this, List.getElem?_eq_getElem (by rw [hxl]; exact (Array.getElem?_eq_some_iff.1 hi').1)]
          exact ⟨_, rfl⟩⟩)
      exact ⟨avs, by simp only [Shp, ht]; exact h1, by simpa using h2, h3, by simpa using h4⟩
    · rename_i k e ht
      simp only [Bool.and_eq_true, decide_eq_true_eq] at h
      obtain ⟨xs, m, _, _, hcl, hxl, hf⟩ := DataW.trod_array ht hx
      obtain ⟨avs, h1, h2, h3, h4⟩ := shpN_of (w := w) (ok := ok) (S := Shp P n e) (cs := cs) (m := P.cellsOf e) (T := fun c => ∃ y, DataW.trod enc P w base spare held m e c = some y)
        (fun c ⟨y, hy⟩ => shp_of hok n e m c y h.2 hy) k 0 (by rw [Nat.zero_add]; omega) (fun i hi => by
          rw [hf i (by omega), List.getElem?_eq_getElem (by omega)]
          exact ⟨_, rfl⟩)
      exact ⟨avs, by simp only [Shp, ht]; exact h1, by simpa using h2, h3, by simpa using h4⟩
    · cases h

/-- An argument's abstract value. -/
def wrapA (P : Program) (t : TypeId) (avs : List AV) : AV :=
  match P.underlying t with
  | some (.struct _) => .agg avs
  | some (.array _ _) => .agg avs
  | _ => avs.headD .any

/-- Arguments' shapes. -/
def ShpA (P : Program) (n : Nat) : List TypeId → List AV → Prop
  | [], as => as = []
  | t :: ts, as => ∃ avs rest, as = wrapA P t avs :: rest ∧ Shp P n t avs ∧ ShpA P n ts rest

theorem den_wrap {t : TypeId} {v : Value} {avs : List AV} {n b0 : Nat} {r : Reach} (hp : plainT P (n + 1) t = true) (hval : Value.okWide P w r b0 t v) (hs : Shp P (n + 1) t avs) (hd : DenL w ok [] avs v.cells.toList) : Den w ok [] (wrapA P t avs) v := by
  unfold plainT at hp
  unfold wrapA
  have key : ∀ a, avs = [a] → (∀ cs, v ≠ .agg cs) → Den w ok [] (avs.headD .any) v := fun a ha hne => by
    subst ha
    have : v.cells.toList = [v] := by cases v <;> simp_all [Value.cells]
    rw [this] at hd
    obtain ⟨u, us, e, h, _⟩ := hd
    simp only [List.cons.injEq] at e
    rw [e.1]; exact h
  have agg : (∃ cs, v = .agg cs ∧ cs.size = P.cellsOf t ∧ Row.okWide P w r b0 t cs) → Den w ok [] (.agg avs) v := by
    rintro ⟨cs, rfl, _, _⟩
    exact ⟨cs.toList, by simp, by simpa [Value.cells] using hd⟩
  split at hp
  all_goals first | (cases hp; done) | skip
  · rename_i ht
    simp only [Shp, ht] at hs
    obtain ⟨b, rfl⟩ := hs
    simp only [ht]
    refine key _ rfl fun cs e => ?_
    subst e
    simp [Value.okWide, ht, Cell.okWide, Cell.ok] at hval
  · rename_i ht
    simp only [Shp, ht] at hs
    obtain ⟨b, rfl, _⟩ := hs
    simp only [ht]
    refine key _ rfl fun cs e => ?_
    subst e
    simp [Value.okWide, ht, Cell.okWide, Cell.ok] at hval
  · rename_i ht
    simp only [Shp, ht] at hs
    obtain ⟨b, rfl, _⟩ := hs
    simp only [ht]
    refine key _ rfl fun cs e => ?_
    subst e
    simp [Value.okWide, ht, Cell.okWide, Cell.ok] at hval
  · rename_i ht
    simp only [Shp, ht] at hs
    obtain ⟨b, rfl, _⟩ := hs
    simp only [ht]
    refine key _ rfl fun cs e => ?_
    subst e
    simp [Value.okWide, ht, Cell.okWide, Cell.ok] at hval
  · rename_i ht
    simp only [Value.okWide, ht] at hval
    simp only [ht]
    exact agg hval
  · rename_i ht
    simp only [Value.okWide, ht] at hval
    simp only [ht]
    exact agg hval

theorem shpA_of (hok : ∀ b, ok b) {n b0 : Nat} {r : Reach} : ∀ {ts : List TypeId} {vs : List Value} {ds : List (DataW H)} {ps : List MemPlace}, DataW.TrodAll enc P w base spare held ts vs ds ps →
    (∀ t ∈ ts, plainT P (n + 1) t = true) → (∀ (j : Nat) t v, ts[j]? = some t → vs[j]? = some v → Value.okWide P w r b0 t v) →
    ∃ as, ShpA P (n + 1) ts as ∧ DenL w ok [] as vs
  | [], vs, ds, ps, h, _, _ => by
    obtain ⟨rfl, rfl, rfl⟩ := trodAll_nil h
    exact ⟨[], rfl, rfl⟩
  | t :: ts, vs, ds, ps, h, hp, hval => by
    obtain ⟨v, vs', d, ds', p, q, rfl, rfl, rfl, ⟨fuel, h1⟩, h2⟩ := trodAll_cons h
    obtain ⟨avs, ha1, ha2, ha3, ha4⟩ := shp_of hok (n + 1) t fuel _ _ (hp t List.mem_cons_self) h1
    obtain ⟨as, hs1, hs2⟩ := shpA_of hok h2 (fun u hu => hp u (List.mem_cons_of_mem _ hu)) (fun j u x hu hx => hval (j + 1) u x (by simpa using hu) (by simpa using hx))
    exact ⟨_ :: as, ⟨avs, as, rfl, ha1, hs1⟩, v, vs', rfl, den_wrap (hp t List.mem_cons_self) (hval 0 t v rfl rfl) ha1 ha4, hs2⟩

theorem trodAll_stays (hl : laidOutB P = true) {W W' : World} {sp' : Nat → Bool} : ∀ {ts : List TypeId} {vs : List Value} {ds : List (DataW H)} {ps : List MemPlace}, DataW.TrodAll enc P W base (fun _ => true) true ts vs ds ps →
    (∀ t ∈ ts, P.readableRec t = true ∧ t < P.types.size) → (∀ p ∈ ps, W.sameAt W' p) → (∀ p ∈ ps, sp' p.block = true) → DataW.TrodAll enc P W' base sp' true ts vs ds ps
  | [], vs, ds, ps, h, _, _, _ => by
    obtain ⟨rfl, rfl, rfl⟩ := trodAll_nil h
    exact trodAll_mk0
  | t :: ts, vs, ds, ps, h, hr, hs, hsp => by
    obtain ⟨v, vs', d, ds', p, q, rfl, rfl, rfl, h1, h2⟩ := trodAll_cons h
    exact trodAll_cons_mk (WideElems.Trod_stays hl (hr t List.mem_cons_self).1 (hr t List.mem_cons_self).2 h1 (fun x hx => hs x (by simp [hx])) (fun x hx => hsp x (by simp [hx])))
      (trodAll_stays hl h2 (fun u hu => hr u (List.mem_cons_of_mem _ hu)) (fun x hx => hs x (by simp [hx])) (fun x hx => hsp x (by simp [hx])))

theorem trodAll_length : ∀ {ts : List TypeId} {vs : List Value} {ds : List (DataW H)} {ps : List MemPlace}, DataW.TrodAll enc P w base spare held ts vs ds ps → ds.length = ts.length
  | [], vs, ds, ps, h => by
    obtain ⟨rfl, rfl, rfl⟩ := trodAll_nil h; rfl
  | t :: ts, vs, ds, ps, h => by
    obtain ⟨v, vs', d, ds', p, q, rfl, rfl, rfl, h1, h2⟩ := trodAll_cons h
    simp [trodAll_length h2]

/-- A LAW's CONTRACT, AS ITS ROW WANTS IT. -/
theorem law_join {f : FuncId} {fn : Func} {s : ChangeSpec} {tb : TypeId} {apart fresh handsOn : Bool} (n : Nat) (hlaid : laidOutB P = true) (hread : ∀ t ∈ fn.params.toList, P.readableRec t = true ∧ t < P.types.size)
    (hplain : ∀ t ∈ fn.params.toList, plainT P (n + 1) t = true) (hvars : s.vars = []) (hres : fn.resultTypes = #[tb]) (htb : P.underlying tb = some .bool)
    (hspec : ∀ ds : List (DataW H), ds.length = fn.params.size → s.fn H ds = { results := [.lit (.bool true)], args := ds })
    (law : ∀ as, ShpA P (n + 1) fn.params.toList as → ACall P f as [] (.bool true) [])
    (W : World) (base : Nat) (args : Array Value) (ds gs : List (DataW H)) (before : List MemPlace)
    (hval : ∀ (j : Nat) t v, fn.params[j]? = some t → args[j]? = some v → Value.okWide P W .any base t v)
    (hW : DataW.Whole enc P fn.params.toList s.vars apart W args.toList ds gs before) :
    Calls P f args W fun e W' => ∃ v, e = .returned v ∧ s.post enc P fn apart fresh handsOn false W args v W' := by
  have hW' := hW
  obtain ⟨p, q, hA, hV, rfl, hfz, hnd⟩ := hW
  rw [hvars] at hV
  obtain ⟨rfl, rfl⟩ := trodVars_none hV
  obtain ⟨as, hs, hd⟩ := shpA_of (ok := okN W (fun _ => True) [] []) (n := n) (fun b => ⟨.inl trivial, fun n c blk h => by simp at h⟩) hA hplain (r := .any) (b0 := base) (fun j t v ht hv => hval j t v (by simpa using ht) (by simpa using hv))
  have hrel : Rel W (fun _ => True) (([] : Names').map (·.1)) [] [] W :=
    ⟨rfl, rfl, rfl, Nat.le_refl _, fun _ _ _ => rfl, rfl, fun n b c blk h => by simp at h, fun n n' b c c' blk blk' h => by simp at h⟩
  have hcall := (law as hs).2 W (fun _ => True) [] args.toList hrel hd
  refine (show Calls P f args W _ from hcall).mono fun e W' ⟨v, ι', he, hr, hv⟩ => ?_
  subst he
  simp only [Den] at hv
  subst hv
  have hsame : ∀ b, b < W.heap.size → W'.heap[b]? = W.heap[b]? := fun b hb => hr.frame b hb (by simp)
  have hbel : Below W.heap.size W W' := ⟨hr.os, hr.tape, hr.output, hr.size, hsame⟩
  have hlt : ∀ x ∈ p, x.block < W.heap.size := fun x hx => by simpa using hW'.lt x (by simp [hx])
  have e1 : s.fn H (ds ++ []) = { results := [.lit (.bool true)], args := ds } := by
    rw [List.append_nil]
    refine hspec ds ?_
    simpa using trodAll_length hA
  refine ⟨_, rfl, ds, [], p ++ [], [], p, [], hW', ?_, ?_, ?_, ?_, fun h => by cases h⟩
  · rw [e1, hres]; exact trodAll_mk1 (shut_bool htb true)
  · rw [e1]; exact trodAll_stays hlaid hA hread (fun x hx => hbel.same (hlt x hx)) (fun x hx => by simpa using hlt x hx)
  · rw [e1, hvars]; rfl
  · exact World.keptBut_mono (fun p hp => hp.elim) (hbel.frame (fun _ => False))
end
end SX
