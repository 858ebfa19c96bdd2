/-
  DERIVED. GIVEN WITH THE SEED: THE CARDS: each row of YtbacahoihkpkpaaDoorRows.lean that lists a variable, with what it lists TIED to the program's text (the seventh form; the later family's looks); each row that meets fmt, with fmt's text TOLD by the authors' own Lean function (tested against real Go, not proved from fmt's source: count such statements apart). THE CARD IS WHAT COUNTS. Prove the row's statement (the work); the ties are given (YtbacahoihkpkpaaDoorTie.lean); close each card by the builder's one call (the guide's Derived/Test/ToyasCard.lean, 'card_holds'). Laid BY PROGRAM, IN A SANDBOX (cutbox-door.mjs). By AI agents, Wed Nov 11 2026. No macro, syntax, notation, axiom, sorry.
-/
import Derived.Test.YtbacahoihkpkpaaDoorRows
import GoSem.ClaimSeven
namespace Go.Proofs.YtbacahoihkpkpaaDoor
namespace Rows

/-- THE TIED CARD OF 'waywardenlaw06.TrieFinds'. -/
def trieFindsCard : Claim7 := { stood := { row := trieFindsRow, standIns := [], harness := (true, "4d6dc594d1c8bea5d3992f06d98a40e1374564f5f7d76bea53fde4a778156485"), looks := false }, kinds := [], alts := [], laidByText := true, laidKinds := [.data], laidTests := true, laidLooks := .later }
def TrieFindsCardSaid : Prop := Claim7.holds Tryd.pinned (.plain (OpenSpec.ofChange trieFindsSpec)) trieFindsCard

/-- THE TIED CARD OF 'waywardenlaw06.TrieHolds'. -/
def trieHoldsCard : Claim7 := { stood := { row := trieHoldsRow, standIns := [], harness := (true, "4d6dc594d1c8bea5d3992f06d98a40e1374564f5f7d76bea53fde4a778156485"), looks := false }, kinds := [], alts := [], laidByText := true, laidKinds := [.data], laidTests := true, laidLooks := .later }
def TrieHoldsCardSaid : Prop := Claim7.holds Tryd.pinned (.plain (OpenSpec.ofChange trieHoldsSpec)) trieHoldsCard

/-- THE TIED CARD OF 'waywardenlaw06.TrieFrom'. -/
def trieFromCard : Claim7 := { stood := { row := trieFromRow, standIns := [], harness := (true, "4d6dc594d1c8bea5d3992f06d98a40e1374564f5f7d76bea53fde4a778156485"), looks := false }, kinds := [], alts := [], laidByText := true, laidKinds := [.data], laidTests := true, laidLooks := .later }
def TrieFromCardSaid : Prop := Claim7.holds Tryd.pinned (.plain (OpenSpec.ofChange trieFromSpec)) trieFromCard

/-- THE TIED CARD OF 'waywardenlaw06.TriePlays'. -/
def triePlaysCard : Claim7 := { stood := { row := triePlaysRow, standIns := [], harness := (true, "4d6dc594d1c8bea5d3992f06d98a40e1374564f5f7d76bea53fde4a778156485"), looks := false }, kinds := [], alts := [], laidByText := true, laidKinds := [.data], laidTests := true, laidLooks := .later }
def TriePlaysCardSaid : Prop := Claim7.holds Tryd.pinned (.plain (OpenSpec.ofChange triePlaysSpec)) triePlaysCard

/-- THE TIED CARD OF 'waywardenlaw06.TrieCopies'. -/
def trieCopiesCard : Claim7 := { stood := { row := trieCopiesRow, standIns := [], harness := (true, "4d6dc594d1c8bea5d3992f06d98a40e1374564f5f7d76bea53fde4a778156485"), looks := false }, kinds := [], alts := [], laidByText := true, laidKinds := [.data], laidTests := true, laidLooks := .later }
def TrieCopiesCardSaid : Prop := Claim7.holds Tryd.pinned (.plain (OpenSpec.ofChange trieCopiesSpec)) trieCopiesCard

/-- THE TIED CARD OF 'waywardenlaw06.TrieNone'. -/
def trieNoneCard : Claim7 := { stood := { row := trieNoneRow, standIns := [], harness := (true, "4d6dc594d1c8bea5d3992f06d98a40e1374564f5f7d76bea53fde4a778156485"), looks := false }, kinds := [], alts := [], laidByText := true, laidKinds := [.data], laidTests := true, laidLooks := .later }
def TrieNoneCardSaid : Prop := Claim7.holds Tryd.pinned (.plain (OpenSpec.ofChange trieNoneSpec)) trieNoneCard

/-- THE SECOND FORM's CARD OF 'waywardenlaw06.TrieFinds'. -/
def trieFindsUptoCard : Claim7 := { stood := { row := trieFindsUptoRow, standIns := [], harness := (true, "4d6dc594d1c8bea5d3992f06d98a40e1374564f5f7d76bea53fde4a778156485"), looks := false }, kinds := [], alts := [], laidByText := true, laidKinds := [.data], laidTests := true, laidLooks := .later }
def TrieFindsUptoCardSaid : Prop := Claim7.holds Tryd.pinned (.plain (OpenSpec.upto trieFindsSpec)) trieFindsUptoCard

/-- THE SECOND FORM's CARD OF 'waywardenlaw06.TrieHolds'. -/
def trieHoldsUptoCard : Claim7 := { stood := { row := trieHoldsUptoRow, standIns := [], harness := (true, "4d6dc594d1c8bea5d3992f06d98a40e1374564f5f7d76bea53fde4a778156485"), looks := false }, kinds := [], alts := [], laidByText := true, laidKinds := [.data], laidTests := true, laidLooks := .later }
def TrieHoldsUptoCardSaid : Prop := Claim7.holds Tryd.pinned (.plain (OpenSpec.upto trieHoldsSpec)) trieHoldsUptoCard

/-- THE SECOND FORM's CARD OF 'waywardenlaw06.TrieFrom'. -/
def trieFromUptoCard : Claim7 := { stood := { row := trieFromUptoRow, standIns := [], harness := (true, "4d6dc594d1c8bea5d3992f06d98a40e1374564f5f7d76bea53fde4a778156485"), looks := false }, kinds := [], alts := [], laidByText := true, laidKinds := [.data], laidTests := true, laidLooks := .later }
def TrieFromUptoCardSaid : Prop := Claim7.holds Tryd.pinned (.plain (OpenSpec.upto trieFromSpec)) trieFromUptoCard

/-- THE SECOND FORM's CARD OF 'waywardenlaw06.TriePlays'. -/
def triePlaysUptoCard : Claim7 := { stood := { row := triePlaysUptoRow, standIns := [], harness := (true, "4d6dc594d1c8bea5d3992f06d98a40e1374564f5f7d76bea53fde4a778156485"), looks := false }, kinds := [], alts := [], laidByText := true, laidKinds := [.data], laidTests := true, laidLooks := .later }
def TriePlaysUptoCardSaid : Prop := Claim7.holds Tryd.pinned (.plain (OpenSpec.upto triePlaysSpec)) triePlaysUptoCard

/-- THE SECOND FORM's CARD OF 'waywardenlaw06.TrieCopies'. -/
def trieCopiesUptoCard : Claim7 := { stood := { row := trieCopiesUptoRow, standIns := [], harness := (true, "4d6dc594d1c8bea5d3992f06d98a40e1374564f5f7d76bea53fde4a778156485"), looks := false }, kinds := [], alts := [], laidByText := true, laidKinds := [.data], laidTests := true, laidLooks := .later }
def TrieCopiesUptoCardSaid : Prop := Claim7.holds Tryd.pinned (.plain (OpenSpec.upto trieCopiesSpec)) trieCopiesUptoCard

/-- THE SECOND FORM's CARD OF 'waywardenlaw06.TrieNone'. -/
def trieNoneUptoCard : Claim7 := { stood := { row := trieNoneUptoRow, standIns := [], harness := (true, "4d6dc594d1c8bea5d3992f06d98a40e1374564f5f7d76bea53fde4a778156485"), looks := false }, kinds := [], alts := [], laidByText := true, laidKinds := [.data], laidTests := true, laidLooks := .later }
def TrieNoneUptoCardSaid : Prop := Claim7.holds Tryd.pinned (.plain (OpenSpec.upto trieNoneSpec)) trieNoneUptoCard
end Rows
end Go.Proofs.YtbacahoihkpkpaaDoor
