/-
  DERIVED. GIVEN WITH THE SEED: THE CARDS: each row of YtmmoccceafcfkaaDoorRows.lean that lists a variable, with what it lists TIED to the program's text (the seventh form; the later family's looks); each row that meets fmt, with fmt's text TOLD by the authors' own Lean function (tested against real Go, not proved from fmt's source: count such statements apart). THE CARD IS WHAT COUNTS. Prove the row's statement (the work); the ties are given (YtmmoccceafcfkaaDoorTie.lean); close each card by the builder's one call (the guide's Derived/Test/ToyasCard.lean, 'card_holds'). Laid BY PROGRAM, IN A SANDBOX (cutbox-door.mjs). By AI agents, Wed Nov 11 2026. No macro, syntax, notation, axiom, sorry.
-/
import Derived.Test.YtmmoccceafcfkaaDoorRows
import GoSem.ClaimSeven
namespace Go.Proofs.YtmmoccceafcfkaaDoor
namespace Rows

/-- THE TIED CARD OF 'waywardenlaw02.PrefixBits'. -/
def prefixBitsCard : Claim7 := { stood := { row := prefixBitsRow, standIns := [], harness := (true, "0e84184ea1863c9822c75dad9f578843a27170ac832a0d07a2ec476dc1d7d86b"), looks := true }, kinds := [], alts := [], laidByText := true, laidKinds := [.data], laidTests := true, laidLooks := .later }
def PrefixBitsCardSaid : Prop := Claim7.holds Tryd.pinned (.plain (OpenSpec.ofChange prefixBitsSpec)) prefixBitsCard

/-- THE TIED CARD OF 'waywardenlaw02.PrefixStands'. -/
def prefixStandsCard : Claim7 := { stood := { row := prefixStandsRow, standIns := [], harness := (true, "0e84184ea1863c9822c75dad9f578843a27170ac832a0d07a2ec476dc1d7d86b"), looks := true }, kinds := [], alts := [], laidByText := true, laidKinds := [.data], laidTests := true, laidLooks := .later }
def PrefixStandsCardSaid : Prop := Claim7.holds Tryd.pinned (.plain (OpenSpec.ofChange prefixStandsSpec)) prefixStandsCard

/-- THE TIED CARD OF 'waywardenlaw02.PrefixHolds'. -/
def prefixHoldsCard : Claim7 := { stood := { row := prefixHoldsRow, standIns := [], harness := (true, "0e84184ea1863c9822c75dad9f578843a27170ac832a0d07a2ec476dc1d7d86b"), looks := true }, kinds := [], alts := [], laidByText := true, laidKinds := [.data], laidTests := true, laidLooks := .later }
def PrefixHoldsCardSaid : Prop := Claim7.holds Tryd.pinned (.plain (OpenSpec.ofChange prefixHoldsSpec)) prefixHoldsCard

/-- THE TIED CARD OF 'waywardenlaw01.AddrParts'. -/
def addrPartsCard : Claim7 := { stood := { row := addrPartsRow, standIns := [], harness := (true, "0e84184ea1863c9822c75dad9f578843a27170ac832a0d07a2ec476dc1d7d86b"), looks := true }, kinds := [], alts := [], laidByText := true, laidKinds := [.data, .data, .data], laidTests := true, laidLooks := .later }
def AddrPartsCardSaid : Prop := Claim7.holds Tryd.pinned (.plain (OpenSpec.ofChange addrPartsSpec)) addrPartsCard

/-- THE TIED CARD OF 'waywardenlaw01.AddrParses'. -/
def addrParsesCard : Claim7 := { stood := { row := addrParsesRow, standIns := [], harness := (true, "0e84184ea1863c9822c75dad9f578843a27170ac832a0d07a2ec476dc1d7d86b"), looks := true }, kinds := [], alts := [], laidByText := true, laidKinds := [.data, .data, .data], laidTests := true, laidLooks := .later }
def AddrParsesCardSaid : Prop := Claim7.holds Tryd.pinned (.plain (OpenSpec.ofChange addrParsesSpec)) addrParsesCard

/-- THE TIED CARD OF 'waywardenlaw01.AddrTexts'. -/
def addrTextsCard : Claim7 := { stood := { row := addrTextsRow, standIns := [], harness := (true, "0e84184ea1863c9822c75dad9f578843a27170ac832a0d07a2ec476dc1d7d86b"), looks := true }, kinds := [], alts := [], laidByText := true, laidKinds := [.data, .data, .data], laidTests := true, laidLooks := .later }
def AddrTextsCardSaid : Prop := Claim7.holds Tryd.pinned (.plain (OpenSpec.ofChange addrTextsSpec)) addrTextsCard

/-- THE TIED CARD OF 'waywardenlaw01.AddrEach'. -/
def addrEachCard : Claim7 := { stood := { row := addrEachRow, standIns := [], harness := (true, "0e84184ea1863c9822c75dad9f578843a27170ac832a0d07a2ec476dc1d7d86b"), looks := true }, kinds := [], alts := [], laidByText := true, laidKinds := [.data, .data, .data], laidTests := true, laidLooks := .later }
def AddrEachCardSaid : Prop := Claim7.holds Tryd.pinned (.plain (OpenSpec.ofChange addrEachSpec)) addrEachCard

/-- THE TIED CARD OF 'waywardenlaw02.PrefixTexts'. -/
def prefixTextsCard : Claim7 := { stood := { row := prefixTextsRow, standIns := [], harness := (true, "0e84184ea1863c9822c75dad9f578843a27170ac832a0d07a2ec476dc1d7d86b"), looks := true }, kinds := [], alts := [], laidByText := true, laidKinds := [.data, .data, .data, .data], laidTests := true, laidLooks := .later }
def PrefixTextsCardSaid : Prop := Claim7.holds Tryd.pinned (.plain (OpenSpec.ofChange prefixTextsSpec)) prefixTextsCard

/-- THE TIED CARD OF 'waywardenlaw01.AddrHolds'. -/
def addrHoldsCard : Claim7 := { stood := { row := addrHoldsRow, standIns := [], harness := (true, "0e84184ea1863c9822c75dad9f578843a27170ac832a0d07a2ec476dc1d7d86b"), looks := true }, kinds := [], alts := [], laidByText := true, laidKinds := [.data, .data, .data], laidTests := true, laidLooks := .later }
def AddrHoldsCardSaid : Prop := Claim7.holds Tryd.pinned (.plain (OpenSpec.ofChange addrHoldsSpec)) addrHoldsCard

/-- THE TIED CARD OF 'waywardenlaw02.PrefixAround'. -/
def prefixAroundCard : Claim7 := { stood := { row := prefixAroundRow, standIns := [], harness := (true, "0e84184ea1863c9822c75dad9f578843a27170ac832a0d07a2ec476dc1d7d86b"), looks := true }, kinds := [], alts := [], laidByText := true, laidKinds := [.data], laidTests := true, laidLooks := .later }
def PrefixAroundCardSaid : Prop := Claim7.holds Tryd.pinned (.plain (OpenSpec.ofChange prefixAroundSpec)) prefixAroundCard

/-- THE SECOND FORM's CARD OF 'waywardenlaw02.PrefixBits'. -/
def prefixBitsUptoCard : Claim7 := { stood := { row := prefixBitsUptoRow, standIns := [], harness := (true, "0e84184ea1863c9822c75dad9f578843a27170ac832a0d07a2ec476dc1d7d86b"), looks := true }, kinds := [], alts := [], laidByText := true, laidKinds := [.data], laidTests := true, laidLooks := .later }
def PrefixBitsUptoCardSaid : Prop := Claim7.holds Tryd.pinned (.plain (OpenSpec.upto prefixBitsSpec)) prefixBitsUptoCard

/-- THE SECOND FORM's CARD OF 'waywardenlaw02.PrefixStands'. -/
def prefixStandsUptoCard : Claim7 := { stood := { row := prefixStandsUptoRow, standIns := [], harness := (true, "0e84184ea1863c9822c75dad9f578843a27170ac832a0d07a2ec476dc1d7d86b"), looks := true }, kinds := [], alts := [], laidByText := true, laidKinds := [.data], laidTests := true, laidLooks := .later }
def PrefixStandsUptoCardSaid : Prop := Claim7.holds Tryd.pinned (.plain (OpenSpec.upto prefixStandsSpec)) prefixStandsUptoCard

/-- THE SECOND FORM's CARD OF 'waywardenlaw02.PrefixHolds'. -/
def prefixHoldsUptoCard : Claim7 := { stood := { row := prefixHoldsUptoRow, standIns := [], harness := (true, "0e84184ea1863c9822c75dad9f578843a27170ac832a0d07a2ec476dc1d7d86b"), looks := true }, kinds := [], alts := [], laidByText := true, laidKinds := [.data], laidTests := true, laidLooks := .later }
def PrefixHoldsUptoCardSaid : Prop := Claim7.holds Tryd.pinned (.plain (OpenSpec.upto prefixHoldsSpec)) prefixHoldsUptoCard

/-- THE SECOND FORM's CARD OF 'waywardenlaw01.AddrParts'. -/
def addrPartsUptoCard : Claim7 := { stood := { row := addrPartsUptoRow, standIns := [], harness := (true, "0e84184ea1863c9822c75dad9f578843a27170ac832a0d07a2ec476dc1d7d86b"), looks := true }, kinds := [], alts := [], laidByText := true, laidKinds := [.data, .data, .data], laidTests := true, laidLooks := .later }
def AddrPartsUptoCardSaid : Prop := Claim7.holds Tryd.pinned (.plain (OpenSpec.upto addrPartsSpec)) addrPartsUptoCard

/-- THE SECOND FORM's CARD OF 'waywardenlaw01.AddrParses'. -/
def addrParsesUptoCard : Claim7 := { stood := { row := addrParsesUptoRow, standIns := [], harness := (true, "0e84184ea1863c9822c75dad9f578843a27170ac832a0d07a2ec476dc1d7d86b"), looks := true }, kinds := [], alts := [], laidByText := true, laidKinds := [.data, .data, .data], laidTests := true, laidLooks := .later }
def AddrParsesUptoCardSaid : Prop := Claim7.holds Tryd.pinned (.plain (OpenSpec.upto addrParsesSpec)) addrParsesUptoCard

/-- THE SECOND FORM's CARD OF 'waywardenlaw01.AddrTexts'. -/
def addrTextsUptoCard : Claim7 := { stood := { row := addrTextsUptoRow, standIns := [], harness := (true, "0e84184ea1863c9822c75dad9f578843a27170ac832a0d07a2ec476dc1d7d86b"), looks := true }, kinds := [], alts := [], laidByText := true, laidKinds := [.data, .data, .data], laidTests := true, laidLooks := .later }
def AddrTextsUptoCardSaid : Prop := Claim7.holds Tryd.pinned (.plain (OpenSpec.upto addrTextsSpec)) addrTextsUptoCard

/-- THE SECOND FORM's CARD OF 'waywardenlaw01.AddrEach'. -/
def addrEachUptoCard : Claim7 := { stood := { row := addrEachUptoRow, standIns := [], harness := (true, "0e84184ea1863c9822c75dad9f578843a27170ac832a0d07a2ec476dc1d7d86b"), looks := true }, kinds := [], alts := [], laidByText := true, laidKinds := [.data, .data, .data], laidTests := true, laidLooks := .later }
def AddrEachUptoCardSaid : Prop := Claim7.holds Tryd.pinned (.plain (OpenSpec.upto addrEachSpec)) addrEachUptoCard

/-- THE SECOND FORM's CARD OF 'waywardenlaw02.PrefixTexts'. -/
def prefixTextsUptoCard : Claim7 := { stood := { row := prefixTextsUptoRow, standIns := [], harness := (true, "0e84184ea1863c9822c75dad9f578843a27170ac832a0d07a2ec476dc1d7d86b"), looks := true }, kinds := [], alts := [], laidByText := true, laidKinds := [.data, .data, .data, .data], laidTests := true, laidLooks := .later }
def PrefixTextsUptoCardSaid : Prop := Claim7.holds Tryd.pinned (.plain (OpenSpec.upto prefixTextsSpec)) prefixTextsUptoCard

/-- THE SECOND FORM's CARD OF 'waywardenlaw01.AddrHolds'. -/
def addrHoldsUptoCard : Claim7 := { stood := { row := addrHoldsUptoRow, standIns := [], harness := (true, "0e84184ea1863c9822c75dad9f578843a27170ac832a0d07a2ec476dc1d7d86b"), looks := true }, kinds := [], alts := [], laidByText := true, laidKinds := [.data, .data, .data], laidTests := true, laidLooks := .later }
def AddrHoldsUptoCardSaid : Prop := Claim7.holds Tryd.pinned (.plain (OpenSpec.upto addrHoldsSpec)) addrHoldsUptoCard

/-- THE SECOND FORM's CARD OF 'waywardenlaw02.PrefixAround'. -/
def prefixAroundUptoCard : Claim7 := { stood := { row := prefixAroundUptoRow, standIns := [], harness := (true, "0e84184ea1863c9822c75dad9f578843a27170ac832a0d07a2ec476dc1d7d86b"), looks := true }, kinds := [], alts := [], laidByText := true, laidKinds := [.data], laidTests := true, laidLooks := .later }
def PrefixAroundUptoCardSaid : Prop := Claim7.holds Tryd.pinned (.plain (OpenSpec.upto prefixAroundSpec)) prefixAroundUptoCard
end Rows
end Go.Proofs.YtmmoccceafcfkaaDoor
