/-
  DERIVED. GIVEN WITH THE SEED: THE CARDS: each row of YtgcggepppeficaaGreatDoorRows.lean that lists a variable, with what it lists TIED to the program's text (the seventh form; the later family's looks); each row that meets fmt, with fmt's text TOLD by the authors' own Lean function (tested against real Go, not proved from fmt's source: count such statements apart). THE CARD IS WHAT COUNTS. Prove the row's statement (the work); the ties are given (YtgcggepppeficaaGreatDoorTie.lean); close each card by the builder's one call (the guide's Derived/Test/ToyasCard.lean, 'card_holds'). Laid BY PROGRAM, IN A SANDBOX (cutbox-door.mjs). By AI agents, Wed Nov 11 2026. No macro, syntax, notation, axiom, sorry.
-/
import Derived.Test.YtgcggepppeficaaGreatDoorRows
import GoSem.ClaimSeven
namespace Go.Proofs.YtgcggepppeficaaGreatDoor
namespace Rows

/-- THE TIED CARD OF 'pendulumlaw26.ServeTells'. -/
def serveTellsCard : Claim7 := { stood := { row := serveTellsRow, standIns := [], harness := (true, "7b0c70691bce6e261373d4a93389e0ef934140e16fe1fc23f1b1f158148eda07"), looks := true }, kinds := [], alts := [], laidByText := true, laidKinds := [.data, .pinned], laidTests := true, laidLooks := .later }
def ServeTellsCardSaid : Prop := Claim7.holds Tryz.pinned (.plain (OpenSpec.ofChange serveTellsSpec)) serveTellsCard

/-- THE SECOND FORM's CARD OF 'pendulumlaw26.ServeTells'. -/
def serveTellsUptoCard : Claim7 := { stood := { row := serveTellsUptoRow, standIns := [], harness := (true, "7b0c70691bce6e261373d4a93389e0ef934140e16fe1fc23f1b1f158148eda07"), looks := true }, kinds := [], alts := [], laidByText := true, laidKinds := [.data, .pinned], laidTests := true, laidLooks := .later }
def ServeTellsUptoCardSaid : Prop := Claim7.holds Tryz.pinned (.plain (OpenSpec.upto serveTellsSpec)) serveTellsUptoCard
end Rows
end Go.Proofs.YtgcggepppeficaaGreatDoor
