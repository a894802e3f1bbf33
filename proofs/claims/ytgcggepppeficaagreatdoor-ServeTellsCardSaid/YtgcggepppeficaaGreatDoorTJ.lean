/- It is proved that pendulumlaw26.ServeTells, called with any two api.Ntsd, returns true and leaves both arguments reading as they did (the tied card ServeTellsCardSaid). Conditions: those of the given row alone: the two listed library tables start as the program's text lays them; no bound on the arguments beyond the form's own. -/
import Derived.Test.YtgcggepppeficaaGreatDoorT23
import Derived.Test.YtgcggepppeficaaGreatDoorSxJoin
import Derived.Test.YtgcggepppeficaaGreatDoorCards
import Derived.Test.YtgcggepppeficaaGreatDoorTie
import Derived.Lib.LaidIn
import Derived.Lib.LaidTab
set_option linter.all false
set_option linter.unusedVariables false
set_option linter.unnecessarySimpa false
set_option linter.unusedSimpArgs false
namespace Go.Proofs.YtgcggepppeficaaGreatDoor
open Go SX T1 Go.RowKit
set_option maxRecDepth 100000

theorem own : ownKnob Tryz.prog.godebug = none := by kernel_rfl
theorem laidOut : laidOutB Tryz.prog = true := by kernel_rfl

theorem rkeys_of {P : List AV → Prop} (h : ∀ r, P r → ∃ k : Rkey, r = k.av) : ∀ l : List (List AV), (∀ r ∈ l, P r) → ∃ ks : List Rkey, l = ks.map Rkey.av
  | [], _ => ⟨[], rfl⟩
  | r :: l, hl => by
    obtain ⟨k, rfl⟩ := h r (hl r List.mem_cons_self)
    obtain ⟨ks, rfl⟩ := rkeys_of h l fun x hx => hl x (List.mem_cons_of_mem _ hx)
    exact ⟨k :: ks, rfl⟩

theorem cells52 : Tryz.prog.cellsOf 52 = 3 := by kernel_rfl
theorem i64_of {n : Nat} {avs : List AV} (h : Shp Tryz.prog (n + 1) 3 avs) : ∃ z, avs = [.int .i64 z] := by
  simp only [Shp, Tryz.underlying3] at h
  obtain ⟨z, h, _⟩ := h; exact ⟨z, h⟩
theorem t64_of {n : Nat} {avs : List AV} (h : Shp Tryz.prog (n + 1) 2 avs) : ∃ z, avs = [.int .i64 z] := by
  simp only [Shp, Tryz.underlying2] at h
  obtain ⟨z, h, _⟩ := h; exact ⟨z, h⟩
theorem u32_of {n : Nat} {avs : List AV} (h : Shp Tryz.prog (n + 1) 23 avs) : ∃ z, avs = [.int .u32 z] := by
  simp only [Shp, Tryz.underlying23] at h
  obtain ⟨z, h, _⟩ := h; exact ⟨z, h⟩
theorem u64_of {n : Nat} {avs : List AV} (h : Shp Tryz.prog (n + 1) 26 avs) : ∃ z, avs = [.int .u64 z] := by
  simp only [Shp, Tryz.underlying26] at h
  obtain ⟨z, h, _⟩ := h; exact ⟨z, h⟩
theorem str_of {n : Nat} {avs : List AV} (h : Shp Tryz.prog (n + 1) 9 avs) : ∃ s, avs = [.str s] := by
  simp only [Shp, Tryz.underlying9] at h
  obtain ⟨z, h, _⟩ := h; exact ⟨z, h⟩
theorem rkey_of {n : Nat} {avs : List AV} (h : Shp Tryz.prog (n + 2) 52 avs) : ∃ k : Rkey, avs = k.av := by
  rw [Shp] at h
  simp only [Tryz.underlying52, ShpF] at h
  obtain ⟨a, _, rfl, ha, b, _, rfl, hb, c, _, rfl, hc, rfl⟩ := h
  obtain ⟨a, rfl⟩ := u32_of ha
  obtain ⟨b, rfl⟩ := str_of hb
  obtain ⟨c, rfl⟩ := t64_of hc
  exact ⟨⟨a, b, c⟩, rfl⟩
theorem ring_of {n : Nat} {avs : List AV} (h : Shp Tryz.prog (n + 4) 25 avs) : ∃ k : Ring, avs = k.cs := by
  rw [Shp] at h
  simp only [Tryz.underlying25, ShpF] at h
  obtain ⟨a, _, rfl, ha, b, _, rfl, hb, rfl⟩ := h
  obtain ⟨b, rfl⟩ := u32_of hb
  rw [Shp] at ha
  simp only [Tryz.underlying22, cells52] at ha
  obtain ⟨l, rfl, _, hl⟩ := ha
  obtain ⟨ks, rfl⟩ := rkeys_of (fun r h => rkey_of h) l hl
  exact ⟨⟨ks, b⟩, rfl⟩
theorem ntsd_of {n : Nat} {avs : List AV} (h : Shp Tryz.prog (n + 5) 28 avs) : ∃ x : Ntsd, avs = x.cs := by
  rw [Shp] at h
  simp only [Tryz.underlying28, ShpF] at h
  obtain ⟨a, _, rfl, ha, b, _, rfl, hb, c, _, rfl, hc, d, _, rfl, hd, e, _, rfl, he, f, _, rfl, hf, g, _, rfl, hg, i, _, rfl, hi, j, _, rfl, hj, rfl⟩ := h
  obtain ⟨a, rfl⟩ := ring_of ha
  obtain ⟨b, rfl⟩ := i64_of hb
  obtain ⟨c, rfl⟩ := i64_of hc
  obtain ⟨d, rfl⟩ := u32_of hd
  obtain ⟨e, rfl⟩ := u32_of he
  obtain ⟨f, rfl⟩ := u32_of hf
  obtain ⟨g, rfl⟩ := u64_of hg
  obtain ⟨i, rfl⟩ := u64_of hi
  obtain ⟨j, rfl⟩ := u64_of hj
  exact ⟨⟨a, b, c, d, e, f, g, i, j⟩, rfl⟩

theorem law_of (l : List AV) (h : ShpA Tryz.prog 5 Tryz.f3.params.toList l) : ACall Tryz.prog 3 l [] (.bool true) [] := by
  rw [Tryz.params3] at h
  obtain ⟨a, _, rfl, ha, b, _, rfl, hb, rfl⟩ := h
  obtain ⟨x, rfl⟩ := ntsd_of (n := 0) ha
  obtain ⟨y, rfl⟩ := ntsd_of (n := 0) hb
  simp only [wrapA, Tryz.underlying28]
  exact ServeTells_law x y

/-- WHAT THE LAW's CONTRACT GIVES, FOR EVERY ARGUMENT AND EVERY WORLD. -/
theorem contract (H : Type) (enc : TypeId × Value → H) (W : World) (base : Nat) (args : Array Value) (ds gs : List (DataW H)) (before : List MemPlace)
    (hval : ∀ (j : Nat) t v, Tryz.f3.params[j]? = some t → args[j]? = some v → Value.okWide Tryz.prog W .any base t v)
    (hW : DataW.Whole enc Tryz.prog Tryz.f3.params.toList Rows.serveTellsSpec.vars false W args.toList ds gs before) :
    Calls Tryz.prog 3 args W fun e W' => ∃ v, e = .returned v ∧ Rows.serveTellsSpec.post enc Tryz.prog Tryz.f3 false true false false W args v W' := by
  refine law_join (n := 4) (tb := 4) laidOut ?_ ?_ rfl (by kernel_rfl) Tryz.underlying4 ?_ law_of W base args ds gs before hval hW
  · intro t ht
    rw [Tryz.params3] at ht
    obtain rfl : t = 28 := by simpa using ht
    exact ⟨by kernel_rfl, of_decide_eq_true (by kernel_rfl)⟩
  · intro t ht
    rw [Tryz.params3] at ht
    obtain rfl : t = 28 := by simpa using ht
    kernel_rfl
  · intro ds hl
    have h2 : Tryz.f3.params.size = 2 := by rw [Tryz.params3]; rfl
    rw [h2] at hl
    match ds, hl with
    | [a, b], _ => rfl

/-- A WORLD FOR THE WITNESS: the settled one, the two tables (blocks 0 and 1) holding what the program's text lays. -/
noncomputable def laidWorld (os : Os) : World :=
  let w0 := World.holding Tryz.prog os ⟨#[], #[], []⟩
  let put (h : Array Obj) (g : Nat) (cs : Array Value) : Array Obj := h.modify g fun
    | .cells _ t frozen => .cells cs t frozen
    | o => o
  let h1 := put w0.heap 0 (Go.Pinned.utf8FirstZ.map fun (z : Nat) => Value.int .u8 (z : Int)).toArray
  let h2 := put h1 1 ((([128, 191, 160, 191, 128, 159, 144, 191, 128, 143] ++ List.replicate 22 0) : List Int).map fun z => Value.int .u8 z).toArray
  { w0 with heap := h2 }
def arg0 : Value := .agg #[.slice none 0 0, .int .u32 0, .int .i64 0, .int .i64 0, .int .u32 0, .int .u32 0, .int .u32 0, .int .u64 0, .int .u64 0, .int .u64 0]
def data0 {H : Type} : DataW H := .agg [.agg [.nil, .lit (.int .u32 0)], .lit (.int .i64 0), .lit (.int .i64 0), .lit (.int .u32 0), .lit (.int .u32 0), .lit (.int .u32 0), .lit (.int .u64 0), .lit (.int .u64 0), .lit (.int .u64 0)]
theorem laid_met (os : Os) : laidMet Tryz.prog Rows.serveTellsRow.laid ((laidWorld os).forCall (fun _ _ => 0) ⟨#[], #[arg0, arg0], []⟩).memory :=
  (LaidIn.of_run [1, 0] 8 (by kernel_rfl) (by kernel_rfl) (by kernel_rfl) (by kernel_rfl)).met
theorem reads (os : Os) {H : Type} (enc : TypeId × Value → H) : ∃ places, DataW.whole enc Tryz.prog ((laidWorld os).forCall (fun _ _ => 0) ⟨#[], #[arg0, arg0], []⟩).memory Tryz.f3.params.toList Rows.serveTellsSpec.vars false #[arg0, arg0].toList 8 = some ([data0, data0], [], places) :=
  ⟨[], by kernel_rfl⟩

theorem lifted (os : Os) (started : os.Started) (H : Type) (enc : TypeId × Value → H) (F : Stop.Interp) :
    ReturnsInHanded {} Tryz.checked os 3 .any ((OpenSpec.ofChange Rows.serveTellsSpec).preRow enc Tryz.prog Tryz.f3 Rows.serveTellsRow.domain false Rows.serveTellsRow.laid) (((OpenSpec.ofChange Rows.serveTellsSpec).at F).post enc Tryz.prog Tryz.f3 false true false false) := by
  obtain ⟨places, hx⟩ := reads os enc
  refine returnsInHanded_of_row (C := Tryz.checked) (s := OpenSpec.ofChange Rows.serveTellsSpec) own started (by kernel_rfl) Tryz.func3
    (witness_row_at (enc := enc) (C := Tryz.checked) false (laidWorld os) #[arg0, arg0] rfl (by kernel_rfl) (by kernel_rfl) (by kernel_rfl)
      (OpenSpec.preRow_of_cond 8 hx (by kernel_rfl) (fun k hk => by cases hk) (by kernel_rfl) (laid_met os))) ?_
  intro W base args ds gs before hval hW _ _ _ _ _ _
  exact contract H enc W base args ds gs before hval hW

theorem said : Rows.ServeTellsSaid :=
  OpenClaim.holds_of_cond 3 Tryz.f3 rfl rfl rfl rfl rfl rfl rfl ⟨rfl, rfl, rfl, rfl, rfl⟩ rfl rfl rfl rfl rfl (by kernel_rfl) Tryz.func3 (by kernel_rfl)
    (of_decide_eq_true (by kernel_rfl)) (by unfold Func.isWrapper; first | (rw [if_pos (by decide +kernel)]; kernel_rfl) | (rw [if_neg (by decide +kernel)]; exact ⟨rfl, rfl⟩))
    (fun os started H enc _ F => by rw [OpenClaim.pre_eq_preRow]; exact lifted os started H enc F)

theorem plain (f : FuncId) (fn : Func) (hf : Tryz.pinned.checked.prog.funcNamed "pendulum/pendulumlaw26.ServeTells" = some f) (hfn : Tryz.pinned.checked.prog.funcs[f]? = some fn) :
    true = Tryz.pinned.checked.prog.looks [] ∧ ∀ (j : Nat) t, fn.params[j]? = some t → Tryz.pinned.checked.prog.wantsStandIn t = false := by
  obtain rfl : f = 3 := Option.some.inj ((show Tryz.prog.funcNamed "pendulum/pendulumlaw26.ServeTells" = some 3 by kernel_rfl).symm.trans hf) |>.symm
  obtain rfl : fn = Tryz.f3 := (Option.some.inj (Tryz.func3.symm.trans hfn)).symm
  refine ⟨by kernel_rfl, fun j t ht => ?_⟩
  rw [Tryz.params3] at ht
  obtain rfl : t = 28 := by simpa using Array.mem_of_getElem? ht
  exact (show Tryz.prog.wantsStandIn 28 = false by kernel_rfl)

/-- THE CARD. -/
theorem serveTells_card : Rows.ServeTellsCardSaid :=
  Claim7.holds_tied_plain_at .later [] _ _ _ _ said (fun _ h => by cases h) (by kernel_rfl) (fun _ h => by cases h) serveTells_row_tie rfl ⟨rfl, rfl⟩ (by kernel_rfl) rfl plain (by kernel_rfl)
#print axioms serveTells_card
end Go.Proofs.YtgcggepppeficaaGreatDoor
