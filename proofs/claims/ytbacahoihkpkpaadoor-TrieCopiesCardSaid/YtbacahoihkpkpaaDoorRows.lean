/-
  NARROWER THAN 'FOR EVERY INPUT', by the rows' own cells (each row's printed sentence says how): TrieFinds: laid · TrieHolds: laid · TrieFrom: laid · TriePlays: laid · TrieCopies: laid · TrieNone: laid.
  DERIVED. THE GIVEN ROWS OF THIS SEAT. 6 by the template 'for every input the law returns true; each argument reads behind the call as it read before'; 0 by the template 'total and deterministic' (their statements: YtbacahoihkpkpaaDoorTotals.lean).
  GIVEN WITH THE SEED: the statements are not yours to turn. If you find one false, say at which input.
  Laid BY PROGRAM, IN A SANDBOX (cutbox-rows.mjs): the forced cells as the released guide's own fill.sh prints them over the translation 7afa64f1ee8eee0d… (all of the seat's roots in one cut). By AI agents, Wed Nov 11 2026. No macro, syntax, notation, axiom, sorry.
-/
import Derived.Test.YtbacahoihkpkpaaDoorChecked
import GoSem.Claim
import GoSem.ClaimJoined
import GoSem.ClaimMapViews
import Derived.JoinedTies
import Derived.KernelRfl
namespace Go.Proofs.YtbacahoihkpkpaaDoor
/- THE CELL 'sum', in the pinned program and in every row, IS THE sha256 OF THE DUMP (.gsa) THAT YtbacahoihkpkpaaDoorProg.lean LOADS. Nothing in Lean hashes anything: it is a label: what it is worth is what the hold of that sum in a sandbox is worth. -/
noncomputable def Tryd.pinned : Pinned := { name := "ytbacahoihkpkpaadoor", sum := "7afa64f1ee8eee0de3b8502cb0ccc3ad37be8b92bd80a0635ecfad94f5793973", checked := Tryd.checked }
namespace Rows
def none {H : Type} : Left H := { results := [], args := [] }

/- WHAT THE LISTED PACKAGE-LEVEL VARIABLES READ AS WHEN THE CALL BEGINS. Each datum BY PROGRAM (the guide's laid-datum.mjs) off the statement by which the dump's own 'gosem.cut.vars' lays the variable. In a bare row this is a premise. The card (YtbacahoihkpkpaaDoorCards.lean) ties it to the program's text. -/
def laid_waywarden_prefix_rels {H : Type} : DataW H := .agg [.agg [.lit (.int .i64 4), .lit (.int .i64 2)], .agg [.lit (.int .i64 3), .lit (.int .i64 1)]]

/-- 'waywardenlaw06.TrieFinds': WHATEVER THE INPUT: true; the input reads as it did. -/
def trieFindsSpec : ChangeSpec := { name := "trieFinds", fn := fun _ => fun
  | [d1, d2, d3, d4] => { results := [.lit (.bool true)], args := [d1, d2, d3, d4] }
  | _ => none }
def trieFindsRow : OpenClaim := { program := "ytbacahoihkpkpaadoor", sum := "7afa64f1ee8eee0de3b8502cb0ccc3ad37be8b92bd80a0635ecfad94f5793973", func := "waywarden/waywardenlaw06.TrieFinds", spec := "trieFinds", unfollowed := true, recurses := true, named := ["waywarden/prefix.rels"], apart := false, laid := [("waywarden/prefix.rels", laid_waywarden_prefix_rels)] }
def TrieFindsSaid : Prop := trieFindsRow.holds Tryd.pinned (OpenSpec.ofChange trieFindsSpec)

/-- ITS FALSE NEIGHBOUR: 'it returns false'. Refute it at one input. -/
def trieFindsWrong : ChangeSpec := { name := "trieFinds", fn := fun _ => fun
  | [d1, d2, d3, d4] => { results := [.lit (.bool false)], args := [d1, d2, d3, d4] }
  | _ => none }
def TrieFindsWrongFalsely : Prop := trieFindsRow.holds Tryd.pinned (OpenSpec.ofChange trieFindsWrong)

/-- 'waywardenlaw06.TrieHolds': WHATEVER THE INPUT: true; the input reads as it did. -/
def trieHoldsSpec : ChangeSpec := { name := "trieHolds", fn := fun _ => fun
  | [d1, d2, d3] => { results := [.lit (.bool true)], args := [d1, d2, d3] }
  | _ => none }
def trieHoldsRow : OpenClaim := { program := "ytbacahoihkpkpaadoor", sum := "7afa64f1ee8eee0de3b8502cb0ccc3ad37be8b92bd80a0635ecfad94f5793973", func := "waywarden/waywardenlaw06.TrieHolds", spec := "trieHolds", unfollowed := true, recurses := true, named := ["waywarden/prefix.rels"], apart := false, laid := [("waywarden/prefix.rels", laid_waywarden_prefix_rels)] }
def TrieHoldsSaid : Prop := trieHoldsRow.holds Tryd.pinned (OpenSpec.ofChange trieHoldsSpec)

/-- ITS FALSE NEIGHBOUR: 'it returns false'. Refute it at one input. -/
def trieHoldsWrong : ChangeSpec := { name := "trieHolds", fn := fun _ => fun
  | [d1, d2, d3] => { results := [.lit (.bool false)], args := [d1, d2, d3] }
  | _ => none }
def TrieHoldsWrongFalsely : Prop := trieHoldsRow.holds Tryd.pinned (OpenSpec.ofChange trieHoldsWrong)

/-- 'waywardenlaw06.TrieFrom': WHATEVER THE INPUT: true; the input reads as it did. -/
def trieFromSpec : ChangeSpec := { name := "trieFrom", fn := fun _ => fun
  | [d1, d2, d3, d4] => { results := [.lit (.bool true)], args := [d1, d2, d3, d4] }
  | _ => none }
def trieFromRow : OpenClaim := { program := "ytbacahoihkpkpaadoor", sum := "7afa64f1ee8eee0de3b8502cb0ccc3ad37be8b92bd80a0635ecfad94f5793973", func := "waywarden/waywardenlaw06.TrieFrom", spec := "trieFrom", unfollowed := true, recurses := true, named := ["waywarden/prefix.rels"], apart := false, laid := [("waywarden/prefix.rels", laid_waywarden_prefix_rels)] }
def TrieFromSaid : Prop := trieFromRow.holds Tryd.pinned (OpenSpec.ofChange trieFromSpec)

/-- ITS FALSE NEIGHBOUR: 'it returns false'. Refute it at one input. -/
def trieFromWrong : ChangeSpec := { name := "trieFrom", fn := fun _ => fun
  | [d1, d2, d3, d4] => { results := [.lit (.bool false)], args := [d1, d2, d3, d4] }
  | _ => none }
def TrieFromWrongFalsely : Prop := trieFromRow.holds Tryd.pinned (OpenSpec.ofChange trieFromWrong)

/-- 'waywardenlaw06.TriePlays': WHATEVER THE INPUT: true; the input reads as it did. -/
def triePlaysSpec : ChangeSpec := { name := "triePlays", fn := fun _ => fun
  | [d] => { results := [.lit (.bool true)], args := [d] }
  | _ => none }
def triePlaysRow : OpenClaim := { program := "ytbacahoihkpkpaadoor", sum := "7afa64f1ee8eee0de3b8502cb0ccc3ad37be8b92bd80a0635ecfad94f5793973", func := "waywarden/waywardenlaw06.TriePlays", spec := "triePlays", unfollowed := true, recurses := true, named := ["waywarden/prefix.rels"], apart := false, laid := [("waywarden/prefix.rels", laid_waywarden_prefix_rels)] }
def TriePlaysSaid : Prop := triePlaysRow.holds Tryd.pinned (OpenSpec.ofChange triePlaysSpec)

/-- ITS FALSE NEIGHBOUR: 'it returns false'. Refute it at one input. -/
def triePlaysWrong : ChangeSpec := { name := "triePlays", fn := fun _ => fun
  | [d] => { results := [.lit (.bool false)], args := [d] }
  | _ => none }
def TriePlaysWrongFalsely : Prop := triePlaysRow.holds Tryd.pinned (OpenSpec.ofChange triePlaysWrong)

/-- 'waywardenlaw06.TrieCopies': WHATEVER THE INPUT: true; the input reads as it did. -/
def trieCopiesSpec : ChangeSpec := { name := "trieCopies", fn := fun _ => fun
  | [d1, d2, d3] => { results := [.lit (.bool true)], args := [d1, d2, d3] }
  | _ => none }
def trieCopiesRow : OpenClaim := { program := "ytbacahoihkpkpaadoor", sum := "7afa64f1ee8eee0de3b8502cb0ccc3ad37be8b92bd80a0635ecfad94f5793973", func := "waywarden/waywardenlaw06.TrieCopies", spec := "trieCopies", unfollowed := true, recurses := true, named := ["waywarden/prefix.rels"], apart := false, laid := [("waywarden/prefix.rels", laid_waywarden_prefix_rels)] }
def TrieCopiesSaid : Prop := trieCopiesRow.holds Tryd.pinned (OpenSpec.ofChange trieCopiesSpec)

/-- ITS FALSE NEIGHBOUR: 'it returns false'. Refute it at one input. -/
def trieCopiesWrong : ChangeSpec := { name := "trieCopies", fn := fun _ => fun
  | [d1, d2, d3] => { results := [.lit (.bool false)], args := [d1, d2, d3] }
  | _ => none }
def TrieCopiesWrongFalsely : Prop := trieCopiesRow.holds Tryd.pinned (OpenSpec.ofChange trieCopiesWrong)

/-- 'waywardenlaw06.TrieNone': WHATEVER THE INPUT: true; the input reads as it did. -/
def trieNoneSpec : ChangeSpec := { name := "trieNone", fn := fun _ => fun
  | [d1, d2, d3] => { results := [.lit (.bool true)], args := [d1, d2, d3] }
  | _ => none }
def trieNoneRow : OpenClaim := { program := "ytbacahoihkpkpaadoor", sum := "7afa64f1ee8eee0de3b8502cb0ccc3ad37be8b92bd80a0635ecfad94f5793973", func := "waywarden/waywardenlaw06.TrieNone", spec := "trieNone", unfollowed := true, recurses := true, named := ["waywarden/prefix.rels"], apart := false, laid := [("waywarden/prefix.rels", laid_waywarden_prefix_rels)] }
def TrieNoneSaid : Prop := trieNoneRow.holds Tryd.pinned (OpenSpec.ofChange trieNoneSpec)

/-- ITS FALSE NEIGHBOUR: 'it returns false'. Refute it at one input. -/
def trieNoneWrong : ChangeSpec := { name := "trieNone", fn := fun _ => fun
  | [d1, d2, d3] => { results := [.lit (.bool false)], args := [d1, d2, d3] }
  | _ => none }
def TrieNoneWrongFalsely : Prop := trieNoneRow.holds Tryd.pinned (OpenSpec.ofChange trieNoneWrong)

/- THE SECOND FORM. 'bulk': how many values and letters a reading holds, each counted each time it is reached (what is shared counts as often as it is met; a slice's spare places count too). A statement '..UptoSaid' is the law's where the arguments, and the package variables that the reading takes, are together of bulk at most 1048576: NARROWER than '..Said'. Prove '..Said' where nothing that the law and all that it calls make is longer than what came in: it says more and counts as full. Else prove '..UptoSaid'. A law counts once. -/
mutual
def uptoBulk {H : Type} : DataW H → Nat
  | .lit (.string bytes) => bytes.length + 1
  | .lit _ => 1
  | .nil => 1
  | .ptr d => uptoBulk d + 1
  | .slice elems spare => uptoBulkAll elems + uptoBulkAll spare + 1
  | .agg parts => uptoBulkAll parts + 1
  | .iface _ d => uptoBulk d + 1
  | .map entries => uptoBulkEntries entries + 1
  | .held _ => 1
def uptoBulkAll {H : Type} : List (DataW H) → Nat
  | [] => 0
  | d :: r => uptoBulk d + uptoBulkAll r
def uptoBulkEntries {H : Type} : List (Lit × DataW H) → Nat
  | [] => 0
  | x :: r => uptoBulkEntry x + uptoBulkEntries r
def uptoBulkEntry {H : Type} : Lit × DataW H → Nat
  | (.string bytes, d) => bytes.length + uptoBulk d + 1
  | (_, d) => uptoBulk d + 1
 end
def uptoSmall : (H : Type) → List (DataW H) → Bool := fun _ ds => decide (uptoBulkAll ds ≤ 1048576)
def OpenSpec.upto (s : _root_.Go.ChangeSpec) : _root_.Go.OpenSpec := { _root_.Go.OpenSpec.ofChange s with cond := some uptoSmall }

/-- 'waywardenlaw06.TrieFinds', WHERE WHAT IT READS IS OF BULK AT MOST 1048576: true; the input reads as it did. -/
def trieFindsUptoRow : OpenClaim := { program := "ytbacahoihkpkpaadoor", sum := "7afa64f1ee8eee0de3b8502cb0ccc3ad37be8b92bd80a0635ecfad94f5793973", func := "waywarden/waywardenlaw06.TrieFinds", spec := "trieFinds", unfollowed := true, recurses := true, named := ["waywarden/prefix.rels"], apart := false, laid := [("waywarden/prefix.rels", laid_waywarden_prefix_rels)], narrowed := true }
def TrieFindsUptoSaid : Prop := trieFindsUptoRow.holds Tryd.pinned (OpenSpec.upto trieFindsSpec)

/-- 'waywardenlaw06.TrieHolds', WHERE WHAT IT READS IS OF BULK AT MOST 1048576: true; the input reads as it did. -/
def trieHoldsUptoRow : OpenClaim := { program := "ytbacahoihkpkpaadoor", sum := "7afa64f1ee8eee0de3b8502cb0ccc3ad37be8b92bd80a0635ecfad94f5793973", func := "waywarden/waywardenlaw06.TrieHolds", spec := "trieHolds", unfollowed := true, recurses := true, named := ["waywarden/prefix.rels"], apart := false, laid := [("waywarden/prefix.rels", laid_waywarden_prefix_rels)], narrowed := true }
def TrieHoldsUptoSaid : Prop := trieHoldsUptoRow.holds Tryd.pinned (OpenSpec.upto trieHoldsSpec)

/-- 'waywardenlaw06.TrieFrom', WHERE WHAT IT READS IS OF BULK AT MOST 1048576: true; the input reads as it did. -/
def trieFromUptoRow : OpenClaim := { program := "ytbacahoihkpkpaadoor", sum := "7afa64f1ee8eee0de3b8502cb0ccc3ad37be8b92bd80a0635ecfad94f5793973", func := "waywarden/waywardenlaw06.TrieFrom", spec := "trieFrom", unfollowed := true, recurses := true, named := ["waywarden/prefix.rels"], apart := false, laid := [("waywarden/prefix.rels", laid_waywarden_prefix_rels)], narrowed := true }
def TrieFromUptoSaid : Prop := trieFromUptoRow.holds Tryd.pinned (OpenSpec.upto trieFromSpec)

/-- 'waywardenlaw06.TriePlays', WHERE WHAT IT READS IS OF BULK AT MOST 1048576: true; the input reads as it did. -/
def triePlaysUptoRow : OpenClaim := { program := "ytbacahoihkpkpaadoor", sum := "7afa64f1ee8eee0de3b8502cb0ccc3ad37be8b92bd80a0635ecfad94f5793973", func := "waywarden/waywardenlaw06.TriePlays", spec := "triePlays", unfollowed := true, recurses := true, named := ["waywarden/prefix.rels"], apart := false, laid := [("waywarden/prefix.rels", laid_waywarden_prefix_rels)], narrowed := true }
def TriePlaysUptoSaid : Prop := triePlaysUptoRow.holds Tryd.pinned (OpenSpec.upto triePlaysSpec)

/-- 'waywardenlaw06.TrieCopies', WHERE WHAT IT READS IS OF BULK AT MOST 1048576: true; the input reads as it did. -/
def trieCopiesUptoRow : OpenClaim := { program := "ytbacahoihkpkpaadoor", sum := "7afa64f1ee8eee0de3b8502cb0ccc3ad37be8b92bd80a0635ecfad94f5793973", func := "waywarden/waywardenlaw06.TrieCopies", spec := "trieCopies", unfollowed := true, recurses := true, named := ["waywarden/prefix.rels"], apart := false, laid := [("waywarden/prefix.rels", laid_waywarden_prefix_rels)], narrowed := true }
def TrieCopiesUptoSaid : Prop := trieCopiesUptoRow.holds Tryd.pinned (OpenSpec.upto trieCopiesSpec)

/-- 'waywardenlaw06.TrieNone', WHERE WHAT IT READS IS OF BULK AT MOST 1048576: true; the input reads as it did. -/
def trieNoneUptoRow : OpenClaim := { program := "ytbacahoihkpkpaadoor", sum := "7afa64f1ee8eee0de3b8502cb0ccc3ad37be8b92bd80a0635ecfad94f5793973", func := "waywarden/waywardenlaw06.TrieNone", spec := "trieNone", unfollowed := true, recurses := true, named := ["waywarden/prefix.rels"], apart := false, laid := [("waywarden/prefix.rels", laid_waywarden_prefix_rels)], narrowed := true }
def TrieNoneUptoSaid : Prop := trieNoneUptoRow.holds Tryd.pinned (OpenSpec.upto trieNoneSpec)

end Rows
end Go.Proofs.YtbacahoihkpkpaaDoor
