/-
  DERIVED. GIVEN WITH THE SEED: THE CARDS: each row of YtaghjcdlghcjeaaGreatDoorRows.lean that lists a variable, with what it lists TIED to the program's text (the seventh form; the later family's looks); each row that meets fmt, with fmt's text TOLD by the authors' own Lean function (tested against real Go, not proved from fmt's source: count such statements apart). THE CARD IS WHAT COUNTS. Prove the row's statement (the work); the ties are given (YtaghjcdlghcjeaaGreatDoorTie.lean); close each card by the builder's one call (the guide's Derived/Test/ToyasCard.lean, 'card_holds'). Laid BY PROGRAM, IN A SANDBOX (cutbox-door.mjs). By AI agents, Wed Nov 11 2026. No macro, syntax, notation, axiom, sorry.
-/
import Derived.Test.YtaghjcdlghcjeaaGreatDoorRows
import GoSem.ClaimSeven
namespace Go.Proofs.YtaghjcdlghcjeaaGreatDoor
namespace Rows

/-- THE TIED CARD OF 'interleafkeep.BaseCrashes'. -/
def baseCrashesCard : Claim7 := { stood := { row := baseCrashesRow, standIns := [], harness := (true, "d5f0c74f46de23f0fd5f8db2d41fae9d64b6db6d652d20baf3f284e5ff50e445"), looks := true }, kinds := [], alts := [], laidByText := true, laidKinds := [.data, .data, .data, .data, .handle, .sentinel, .sentinel, .pinned], laidTests := true, laidLooks := .later }
def BaseCrashesCardSaid : Prop := Claim7.holds Tryz.pinned (.plain (OpenSpec.ofChange baseCrashesSpec)) baseCrashesCard

/-- THE SECOND FORM's CARD OF 'interleafkeep.BaseCrashes'. -/
def baseCrashesUptoCard : Claim7 := { stood := { row := baseCrashesUptoRow, standIns := [], harness := (true, "d5f0c74f46de23f0fd5f8db2d41fae9d64b6db6d652d20baf3f284e5ff50e445"), looks := true }, kinds := [], alts := [], laidByText := true, laidKinds := [.data, .data, .data, .data, .handle, .sentinel, .sentinel, .pinned], laidTests := true, laidLooks := .later }
def BaseCrashesUptoCardSaid : Prop := Claim7.holds Tryz.pinned (.plain (OpenSpec.upto baseCrashesSpec)) baseCrashesUptoCard
end Rows
end Go.Proofs.YtaghjcdlghcjeaaGreatDoor
