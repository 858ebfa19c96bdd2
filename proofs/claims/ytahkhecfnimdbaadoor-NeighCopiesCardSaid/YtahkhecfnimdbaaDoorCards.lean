/-
  DERIVED. GIVEN WITH THE SEED: THE CARDS: each row of YtahkhecfnimdbaaDoorRows.lean that lists a variable, with what it lists TIED to the program's text (the seventh form; the later family's looks); each row that meets fmt, with fmt's text TOLD by the authors' own Lean function (tested against real Go, not proved from fmt's source: count such statements apart). THE CARD IS WHAT COUNTS. Prove the row's statement (the work); the ties are given (YtahkhecfnimdbaaDoorTie.lean); close each card by the builder's one call (the guide's Derived/Test/ToyasCard.lean, 'card_holds'). Laid BY PROGRAM, IN A SANDBOX (cutbox-door.mjs). By AI agents, Wed Nov 11 2026. No macro, syntax, notation, axiom, sorry.
-/
import Derived.Test.YtahkhecfnimdbaaDoorRows
import GoSem.ClaimSeven
namespace Go.Proofs.YtahkhecfnimdbaaDoor
namespace Rows

/-- THE TIED CARD OF 'waywardenlaw10.NeighHolds'. -/
def neighHoldsCard : Claim7 := { stood := { row := neighHoldsRow, standIns := [], harness := (true, "3e68f5ab63d62361726213b92f7c0c891622f2519f92d68f346e7bd727e504c2"), looks := true }, kinds := [], alts := [], laidByText := true, laidKinds := [.data], laidTests := true, laidLooks := .later }
def NeighHoldsCardSaid : Prop := Claim7.holds Tryd.pinned (.plain (OpenSpec.ofChange neighHoldsSpec)) neighHoldsCard

/-- THE TIED CARD OF 'waywardenlaw10.NeighAll'. -/
def neighAllCard : Claim7 := { stood := { row := neighAllRow, standIns := [], harness := (true, "3e68f5ab63d62361726213b92f7c0c891622f2519f92d68f346e7bd727e504c2"), looks := true }, kinds := [], alts := [], laidByText := true, laidKinds := [.data], laidTests := true, laidLooks := .later }
def NeighAllCardSaid : Prop := Claim7.holds Tryd.pinned (.plain (OpenSpec.ofChange neighAllSpec)) neighAllCard

/-- THE TIED CARD OF 'waywardenlaw10.NeighPlays'. -/
def neighPlaysCard : Claim7 := { stood := { row := neighPlaysRow, standIns := [], harness := (true, "3e68f5ab63d62361726213b92f7c0c891622f2519f92d68f346e7bd727e504c2"), looks := true }, kinds := [], alts := [], laidByText := true, laidKinds := [.data], laidTests := true, laidLooks := .later }
def NeighPlaysCardSaid : Prop := Claim7.holds Tryd.pinned (.plain (OpenSpec.ofChange neighPlaysSpec)) neighPlaysCard

/-- THE TIED CARD OF 'waywardenlaw10.NeighBounds'. -/
def neighBoundsCard : Claim7 := { stood := { row := neighBoundsRow, standIns := [], harness := (true, "3e68f5ab63d62361726213b92f7c0c891622f2519f92d68f346e7bd727e504c2"), looks := true }, kinds := [], alts := [], laidByText := true, laidKinds := [.data], laidTests := true, laidLooks := .later }
def NeighBoundsCardSaid : Prop := Claim7.holds Tryd.pinned (.plain (OpenSpec.ofChange neighBoundsSpec)) neighBoundsCard

/-- THE TIED CARD OF 'waywardenlaw10.NeighCopies'. -/
def neighCopiesCard : Claim7 := { stood := { row := neighCopiesRow, standIns := [], harness := (true, "3e68f5ab63d62361726213b92f7c0c891622f2519f92d68f346e7bd727e504c2"), looks := true }, kinds := [], alts := [], laidByText := true, laidKinds := [.data], laidTests := true, laidLooks := .later }
def NeighCopiesCardSaid : Prop := Claim7.holds Tryd.pinned (.plain (OpenSpec.ofChange neighCopiesSpec)) neighCopiesCard

/-- THE SECOND FORM's CARD OF 'waywardenlaw10.NeighHolds'. -/
def neighHoldsUptoCard : Claim7 := { stood := { row := neighHoldsUptoRow, standIns := [], harness := (true, "3e68f5ab63d62361726213b92f7c0c891622f2519f92d68f346e7bd727e504c2"), looks := true }, kinds := [], alts := [], laidByText := true, laidKinds := [.data], laidTests := true, laidLooks := .later }
def NeighHoldsUptoCardSaid : Prop := Claim7.holds Tryd.pinned (.plain (OpenSpec.upto neighHoldsSpec)) neighHoldsUptoCard

/-- THE SECOND FORM's CARD OF 'waywardenlaw10.NeighAll'. -/
def neighAllUptoCard : Claim7 := { stood := { row := neighAllUptoRow, standIns := [], harness := (true, "3e68f5ab63d62361726213b92f7c0c891622f2519f92d68f346e7bd727e504c2"), looks := true }, kinds := [], alts := [], laidByText := true, laidKinds := [.data], laidTests := true, laidLooks := .later }
def NeighAllUptoCardSaid : Prop := Claim7.holds Tryd.pinned (.plain (OpenSpec.upto neighAllSpec)) neighAllUptoCard

/-- THE SECOND FORM's CARD OF 'waywardenlaw10.NeighPlays'. -/
def neighPlaysUptoCard : Claim7 := { stood := { row := neighPlaysUptoRow, standIns := [], harness := (true, "3e68f5ab63d62361726213b92f7c0c891622f2519f92d68f346e7bd727e504c2"), looks := true }, kinds := [], alts := [], laidByText := true, laidKinds := [.data], laidTests := true, laidLooks := .later }
def NeighPlaysUptoCardSaid : Prop := Claim7.holds Tryd.pinned (.plain (OpenSpec.upto neighPlaysSpec)) neighPlaysUptoCard

/-- THE SECOND FORM's CARD OF 'waywardenlaw10.NeighBounds'. -/
def neighBoundsUptoCard : Claim7 := { stood := { row := neighBoundsUptoRow, standIns := [], harness := (true, "3e68f5ab63d62361726213b92f7c0c891622f2519f92d68f346e7bd727e504c2"), looks := true }, kinds := [], alts := [], laidByText := true, laidKinds := [.data], laidTests := true, laidLooks := .later }
def NeighBoundsUptoCardSaid : Prop := Claim7.holds Tryd.pinned (.plain (OpenSpec.upto neighBoundsSpec)) neighBoundsUptoCard

/-- THE SECOND FORM's CARD OF 'waywardenlaw10.NeighCopies'. -/
def neighCopiesUptoCard : Claim7 := { stood := { row := neighCopiesUptoRow, standIns := [], harness := (true, "3e68f5ab63d62361726213b92f7c0c891622f2519f92d68f346e7bd727e504c2"), looks := true }, kinds := [], alts := [], laidByText := true, laidKinds := [.data], laidTests := true, laidLooks := .later }
def NeighCopiesUptoCardSaid : Prop := Claim7.holds Tryd.pinned (.plain (OpenSpec.upto neighCopiesSpec)) neighCopiesUptoCard
end Rows
end Go.Proofs.YtahkhecfnimdbaaDoor
