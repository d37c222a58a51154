/-
  DERIVED. GIVEN WITH THE SEED: THE CARDS: each row of YthdiphfbjlooaaaDoorRows.lean that lists a variable, with what it lists TIED to the program's text (the seventh form; the later family's looks); each row that meets fmt, with fmt's text TOLD by the authors' own Lean function (tested against real Go, not proved from fmt's source: count such statements apart). THE CARD IS WHAT COUNTS. Prove the row's statement (the work); the ties are given (YthdiphfbjlooaaaDoorTie.lean); close each card by the builder's one call (the guide's Derived/Test/ToyasCard.lean, 'card_holds'). Laid BY PROGRAM, IN A SANDBOX (cutbox-door.mjs). By AI agents, Wed Nov 11 2026. No macro, syntax, notation, axiom, sorry.
-/
import Derived.Test.YthdiphfbjlooaaaDoorRows
import GoSem.ClaimSeven
namespace Go.Proofs.YthdiphfbjlooaaaDoor
namespace Rows

/-- THE TIED CARD OF 'interleafkeep.StoreSwept'. -/
def storeSweptCard : Claim7 := { stood := { row := storeSweptRow, standIns := [], harness := (true, "e7c42d7baaaa2963ab85cd43af822190648dfd692cbd0e83321a6c6cd9112176"), looks := true }, kinds := [], alts := [], laidByText := true, laidKinds := [.handle], laidTests := true, laidLooks := .later }
def StoreSweptCardSaid : Prop := Claim7.holds Tryd.pinned (.plain (OpenSpec.ofChange storeSweptSpec)) storeSweptCard

/-- THE TIED CARD OF 'interleafkeep.LockMoves'. -/
def lockMovesCard : Claim7 := { stood := { row := lockMovesRow, standIns := [], harness := (true, "e7c42d7baaaa2963ab85cd43af822190648dfd692cbd0e83321a6c6cd9112176"), looks := true }, kinds := [], alts := [], laidByText := true, laidKinds := [.handle], laidTests := true, laidLooks := .later }
def LockMovesCardSaid : Prop := Claim7.holds Tryd.pinned (.plain (OpenSpec.ofChange lockMovesSpec)) lockMovesCard

/-- THE TIED CARD OF 'interleafkeep.OrderFair'. -/
def orderFairCard : Claim7 := { stood := { row := orderFairRow, standIns := [], harness := (true, "e7c42d7baaaa2963ab85cd43af822190648dfd692cbd0e83321a6c6cd9112176"), looks := true }, kinds := [], alts := [], laidByText := true, laidKinds := [.handle], laidTests := true, laidLooks := .later }
def OrderFairCardSaid : Prop := Claim7.holds Tryd.pinned (.plain (OpenSpec.ofChange orderFairSpec)) orderFairCard

/-- THE TIED CARD OF 'interleaflaw.StorePlays'. -/
def storePlaysCard : Claim7 := { stood := { row := storePlaysRow, standIns := [], harness := (true, "e7c42d7baaaa2963ab85cd43af822190648dfd692cbd0e83321a6c6cd9112176"), looks := true }, kinds := [], alts := [], laidByText := true, laidKinds := [.handle], laidTests := true, laidLooks := .later }
def StorePlaysCardSaid : Prop := Claim7.holds Tryd.pinned (.plain (OpenSpec.ofChange storePlaysSpec)) storePlaysCard

/-- THE TIED CARD OF 'interleaflaw.LockPlays'. -/
def lockPlaysCard : Claim7 := { stood := { row := lockPlaysRow, standIns := [], harness := (true, "e7c42d7baaaa2963ab85cd43af822190648dfd692cbd0e83321a6c6cd9112176"), looks := true }, kinds := [], alts := [], laidByText := true, laidKinds := [.handle], laidTests := true, laidLooks := .later }
def LockPlaysCardSaid : Prop := Claim7.holds Tryd.pinned (.plain (OpenSpec.ofChange lockPlaysSpec)) lockPlaysCard

/-- THE TIED CARD OF 'interleaflaw.OrderLines'. -/
def orderLinesCard : Claim7 := { stood := { row := orderLinesRow, standIns := [], harness := (true, "e7c42d7baaaa2963ab85cd43af822190648dfd692cbd0e83321a6c6cd9112176"), looks := true }, kinds := [], alts := [], laidByText := true, laidKinds := [.handle], laidTests := true, laidLooks := .later }
def OrderLinesCardSaid : Prop := Claim7.holds Tryd.pinned (.plain (OpenSpec.ofChange orderLinesSpec)) orderLinesCard

/-- THE SECOND FORM's CARD OF 'interleafkeep.StoreSwept'. -/
def storeSweptUptoCard : Claim7 := { stood := { row := storeSweptUptoRow, standIns := [], harness := (true, "e7c42d7baaaa2963ab85cd43af822190648dfd692cbd0e83321a6c6cd9112176"), looks := true }, kinds := [], alts := [], laidByText := true, laidKinds := [.handle], laidTests := true, laidLooks := .later }
def StoreSweptUptoCardSaid : Prop := Claim7.holds Tryd.pinned (.plain (OpenSpec.upto storeSweptSpec)) storeSweptUptoCard

/-- THE SECOND FORM's CARD OF 'interleafkeep.LockMoves'. -/
def lockMovesUptoCard : Claim7 := { stood := { row := lockMovesUptoRow, standIns := [], harness := (true, "e7c42d7baaaa2963ab85cd43af822190648dfd692cbd0e83321a6c6cd9112176"), looks := true }, kinds := [], alts := [], laidByText := true, laidKinds := [.handle], laidTests := true, laidLooks := .later }
def LockMovesUptoCardSaid : Prop := Claim7.holds Tryd.pinned (.plain (OpenSpec.upto lockMovesSpec)) lockMovesUptoCard

/-- THE SECOND FORM's CARD OF 'interleafkeep.OrderFair'. -/
def orderFairUptoCard : Claim7 := { stood := { row := orderFairUptoRow, standIns := [], harness := (true, "e7c42d7baaaa2963ab85cd43af822190648dfd692cbd0e83321a6c6cd9112176"), looks := true }, kinds := [], alts := [], laidByText := true, laidKinds := [.handle], laidTests := true, laidLooks := .later }
def OrderFairUptoCardSaid : Prop := Claim7.holds Tryd.pinned (.plain (OpenSpec.upto orderFairSpec)) orderFairUptoCard

/-- THE SECOND FORM's CARD OF 'interleaflaw.StorePlays'. -/
def storePlaysUptoCard : Claim7 := { stood := { row := storePlaysUptoRow, standIns := [], harness := (true, "e7c42d7baaaa2963ab85cd43af822190648dfd692cbd0e83321a6c6cd9112176"), looks := true }, kinds := [], alts := [], laidByText := true, laidKinds := [.handle], laidTests := true, laidLooks := .later }
def StorePlaysUptoCardSaid : Prop := Claim7.holds Tryd.pinned (.plain (OpenSpec.upto storePlaysSpec)) storePlaysUptoCard

/-- THE SECOND FORM's CARD OF 'interleaflaw.LockPlays'. -/
def lockPlaysUptoCard : Claim7 := { stood := { row := lockPlaysUptoRow, standIns := [], harness := (true, "e7c42d7baaaa2963ab85cd43af822190648dfd692cbd0e83321a6c6cd9112176"), looks := true }, kinds := [], alts := [], laidByText := true, laidKinds := [.handle], laidTests := true, laidLooks := .later }
def LockPlaysUptoCardSaid : Prop := Claim7.holds Tryd.pinned (.plain (OpenSpec.upto lockPlaysSpec)) lockPlaysUptoCard

/-- THE SECOND FORM's CARD OF 'interleaflaw.OrderLines'. -/
def orderLinesUptoCard : Claim7 := { stood := { row := orderLinesUptoRow, standIns := [], harness := (true, "e7c42d7baaaa2963ab85cd43af822190648dfd692cbd0e83321a6c6cd9112176"), looks := true }, kinds := [], alts := [], laidByText := true, laidKinds := [.handle], laidTests := true, laidLooks := .later }
def OrderLinesUptoCardSaid : Prop := Claim7.holds Tryd.pinned (.plain (OpenSpec.upto orderLinesSpec)) orderLinesUptoCard
end Rows
end Go.Proofs.YthdiphfbjlooaaaDoor
