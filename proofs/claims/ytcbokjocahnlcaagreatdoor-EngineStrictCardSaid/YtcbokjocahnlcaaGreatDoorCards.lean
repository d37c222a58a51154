/-
  DERIVED. GIVEN WITH THE SEED: THE CARDS: each row of YtcbokjocahnlcaaGreatDoorRows.lean that lists a variable, with what it lists TIED to the program's text (the seventh form; the later family's looks); each row that meets fmt, with fmt's text TOLD by the authors' own Lean function (tested against real Go, not proved from fmt's source: count such statements apart). THE CARD IS WHAT COUNTS. Prove the row's statement (the work); the ties are given (YtcbokjocahnlcaaGreatDoorTie.lean); close each card by the builder's one call (the guide's Derived/Test/ToyasCard.lean, 'card_holds'). Laid BY PROGRAM, IN A SANDBOX (cutbox-door.mjs). By AI agents, Wed Nov 11 2026. No macro, syntax, notation, axiom, sorry.
-/
import Derived.Test.YtcbokjocahnlcaaGreatDoorRows
import GoSem.ClaimSeven
namespace Go.Proofs.YtcbokjocahnlcaaGreatDoor
namespace Rows

/-- THE TIED CARD OF 'interleafkeep.EngineSteady'. -/
def engineSteadyCard : Claim7 := { stood := { row := engineSteadyRow, standIns := [], harness := (true, "b2dc65a7f74f156e0f64a403c0697b51cb63a5d25cd9d29dc9c918bbe72a32e5"), looks := true }, kinds := [], alts := [], laidByText := true, laidKinds := [.handle], laidTests := true, laidLooks := .later }
def EngineSteadyCardSaid : Prop := Claim7.holds Tryz.pinned (.plain (OpenSpec.ofChange engineSteadySpec)) engineSteadyCard

/-- THE TIED CARD OF 'interleafkeep.EngineMoves'. -/
def engineMovesCard : Claim7 := { stood := { row := engineMovesRow, standIns := [], harness := (true, "b2dc65a7f74f156e0f64a403c0697b51cb63a5d25cd9d29dc9c918bbe72a32e5"), looks := true }, kinds := [], alts := [], laidByText := true, laidKinds := [.handle], laidTests := true, laidLooks := .later }
def EngineMovesCardSaid : Prop := Claim7.holds Tryz.pinned (.plain (OpenSpec.ofChange engineMovesSpec)) engineMovesCard

/-- THE TIED CARD OF 'interleafkeep.EngineStrict'. -/
def engineStrictCard : Claim7 := { stood := { row := engineStrictRow, standIns := [], harness := (true, "b2dc65a7f74f156e0f64a403c0697b51cb63a5d25cd9d29dc9c918bbe72a32e5"), looks := true }, kinds := [], alts := [], laidByText := true, laidKinds := [.handle], laidTests := true, laidLooks := .later }
def EngineStrictCardSaid : Prop := Claim7.holds Tryz.pinned (.plain (OpenSpec.ofChange engineStrictSpec)) engineStrictCard

/-- THE SECOND FORM's CARD OF 'interleafkeep.EngineSteady'. -/
def engineSteadyUptoCard : Claim7 := { stood := { row := engineSteadyUptoRow, standIns := [], harness := (true, "b2dc65a7f74f156e0f64a403c0697b51cb63a5d25cd9d29dc9c918bbe72a32e5"), looks := true }, kinds := [], alts := [], laidByText := true, laidKinds := [.handle], laidTests := true, laidLooks := .later }
def EngineSteadyUptoCardSaid : Prop := Claim7.holds Tryz.pinned (.plain (OpenSpec.upto engineSteadySpec)) engineSteadyUptoCard

/-- THE SECOND FORM's CARD OF 'interleafkeep.EngineMoves'. -/
def engineMovesUptoCard : Claim7 := { stood := { row := engineMovesUptoRow, standIns := [], harness := (true, "b2dc65a7f74f156e0f64a403c0697b51cb63a5d25cd9d29dc9c918bbe72a32e5"), looks := true }, kinds := [], alts := [], laidByText := true, laidKinds := [.handle], laidTests := true, laidLooks := .later }
def EngineMovesUptoCardSaid : Prop := Claim7.holds Tryz.pinned (.plain (OpenSpec.upto engineMovesSpec)) engineMovesUptoCard

/-- THE SECOND FORM's CARD OF 'interleafkeep.EngineStrict'. -/
def engineStrictUptoCard : Claim7 := { stood := { row := engineStrictUptoRow, standIns := [], harness := (true, "b2dc65a7f74f156e0f64a403c0697b51cb63a5d25cd9d29dc9c918bbe72a32e5"), looks := true }, kinds := [], alts := [], laidByText := true, laidKinds := [.handle], laidTests := true, laidLooks := .later }
def EngineStrictUptoCardSaid : Prop := Claim7.holds Tryz.pinned (.plain (OpenSpec.upto engineStrictSpec)) engineStrictUptoCard
end Rows
end Go.Proofs.YtcbokjocahnlcaaGreatDoor
