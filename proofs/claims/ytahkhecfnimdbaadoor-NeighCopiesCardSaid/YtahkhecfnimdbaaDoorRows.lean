/-
  NARROWER THAN 'FOR EVERY INPUT', by the rows' own cells (each row's printed sentence says how): NeighHolds: laid · NeighAll: laid · NeighPlays: laid · NeighBounds: laid · NeighCopies: laid.
  DERIVED. THE GIVEN ROWS OF THIS SEAT. 5 by the template 'for every input the law returns true; each argument reads behind the call as it read before'; 0 by the template 'total and deterministic' (their statements: YtahkhecfnimdbaaDoorTotals.lean).
  GIVEN WITH THE SEED: the statements are not yours to turn. If you find one false, say at which input.
  Laid BY PROGRAM, IN A SANDBOX (cutbox-rows.mjs): the forced cells as the released guide's own fill.sh prints them over the translation 8ee9ac35f01f807b… (all of the seat's roots in one cut). By AI agents, Wed Nov 11 2026. No macro, syntax, notation, axiom, sorry.
-/
import Derived.Test.YtahkhecfnimdbaaDoorChecked
import GoSem.Claim
import GoSem.ClaimJoined
import GoSem.ClaimMapViews
import Derived.JoinedTies
import Derived.KernelRfl
namespace Go.Proofs.YtahkhecfnimdbaaDoor
/- THE CELL 'sum', in the pinned program and in every row, IS THE sha256 OF THE DUMP (.gsa) THAT YtahkhecfnimdbaaDoorProg.lean LOADS. Nothing in Lean hashes anything: it is a label: what it is worth is what the hold of that sum in a sandbox is worth. -/
noncomputable def Tryd.pinned : Pinned := { name := "ytahkhecfnimdbaadoor", sum := "8ee9ac35f01f807b973e2ccdb7db34cb7c3cbf7f47dc6f516ecc9e21311262c9", checked := Tryd.checked }
namespace Rows
def none {H : Type} : Left H := { results := [], args := [] }

/- WHAT THE LISTED PACKAGE-LEVEL VARIABLES READ AS WHEN THE CALL BEGINS. Each datum BY PROGRAM (the guide's laid-datum.mjs) off the statement by which the dump's own 'gosem.cut.vars' lays the variable. In a bare row this is a premise. The card (YtahkhecfnimdbaaDoorCards.lean) ties it to the program's text. -/
def laid_waywarden_neigh_faceBounds {H : Type} : DataW H := .agg [.lit (.int .i64 0), .lit (.int .i64 15)]

/-- 'waywardenlaw10.NeighHolds': WHATEVER THE INPUT: true; the input reads as it did. -/
def neighHoldsSpec : ChangeSpec := { name := "neighHolds", fn := fun _ => fun
  | [d] => { results := [.lit (.bool true)], args := [d] }
  | _ => none }
def neighHoldsRow : OpenClaim := { program := "ytahkhecfnimdbaadoor", sum := "8ee9ac35f01f807b973e2ccdb7db34cb7c3cbf7f47dc6f516ecc9e21311262c9", func := "waywarden/waywardenlaw10.NeighHolds", spec := "neighHolds", unfollowed := true, recurses := true, named := ["waywarden/neigh.faceBounds"], plainKeys := false, apart := false, laid := [("waywarden/neigh.faceBounds", laid_waywarden_neigh_faceBounds)] }
def NeighHoldsSaid : Prop := neighHoldsRow.holds Tryd.pinned (OpenSpec.ofChange neighHoldsSpec)

/-- ITS FALSE NEIGHBOUR: 'it returns false'. Refute it at one input. -/
def neighHoldsWrong : ChangeSpec := { name := "neighHolds", fn := fun _ => fun
  | [d] => { results := [.lit (.bool false)], args := [d] }
  | _ => none }
def NeighHoldsWrongFalsely : Prop := neighHoldsRow.holds Tryd.pinned (OpenSpec.ofChange neighHoldsWrong)

/-- 'waywardenlaw10.NeighAll': WHATEVER THE INPUT: true; the input reads as it did. -/
def neighAllSpec : ChangeSpec := { name := "neighAll", fn := fun _ => fun
  | [d1, d2, d3] => { results := [.lit (.bool true)], args := [d1, d2, d3] }
  | _ => none }
def neighAllRow : OpenClaim := { program := "ytahkhecfnimdbaadoor", sum := "8ee9ac35f01f807b973e2ccdb7db34cb7c3cbf7f47dc6f516ecc9e21311262c9", func := "waywarden/waywardenlaw10.NeighAll", spec := "neighAll", inPlace := ["maps.clone"], unfollowed := true, recurses := true, named := ["waywarden/neigh.faceBounds"], plainKeys := false, apart := false, laid := [("waywarden/neigh.faceBounds", laid_waywarden_neigh_faceBounds)] }
def NeighAllSaid : Prop := neighAllRow.holds Tryd.pinned (OpenSpec.ofChange neighAllSpec)

/-- ITS FALSE NEIGHBOUR: 'it returns false'. Refute it at one input. -/
def neighAllWrong : ChangeSpec := { name := "neighAll", fn := fun _ => fun
  | [d1, d2, d3] => { results := [.lit (.bool false)], args := [d1, d2, d3] }
  | _ => none }
def NeighAllWrongFalsely : Prop := neighAllRow.holds Tryd.pinned (OpenSpec.ofChange neighAllWrong)

/-- 'waywardenlaw10.NeighPlays': WHATEVER THE INPUT: true; the input reads as it did. -/
def neighPlaysSpec : ChangeSpec := { name := "neighPlays", fn := fun _ => fun
  | [d] => { results := [.lit (.bool true)], args := [d] }
  | _ => none }
def neighPlaysRow : OpenClaim := { program := "ytahkhecfnimdbaadoor", sum := "8ee9ac35f01f807b973e2ccdb7db34cb7c3cbf7f47dc6f516ecc9e21311262c9", func := "waywarden/waywardenlaw10.NeighPlays", spec := "neighPlays", inPlace := ["maps.clone"], unfollowed := true, recurses := true, named := ["waywarden/neigh.faceBounds"], plainKeys := false, apart := false, laid := [("waywarden/neigh.faceBounds", laid_waywarden_neigh_faceBounds)] }
def NeighPlaysSaid : Prop := neighPlaysRow.holds Tryd.pinned (OpenSpec.ofChange neighPlaysSpec)

/-- ITS FALSE NEIGHBOUR: 'it returns false'. Refute it at one input. -/
def neighPlaysWrong : ChangeSpec := { name := "neighPlays", fn := fun _ => fun
  | [d] => { results := [.lit (.bool false)], args := [d] }
  | _ => none }
def NeighPlaysWrongFalsely : Prop := neighPlaysRow.holds Tryd.pinned (OpenSpec.ofChange neighPlaysWrong)

/-- 'waywardenlaw10.NeighBounds': WHATEVER THE INPUT: true; the input reads as it did. -/
def neighBoundsSpec : ChangeSpec := { name := "neighBounds", fn := fun _ => fun
  | [d1, d2] => { results := [.lit (.bool true)], args := [d1, d2] }
  | _ => none }
def neighBoundsRow : OpenClaim := { program := "ytahkhecfnimdbaadoor", sum := "8ee9ac35f01f807b973e2ccdb7db34cb7c3cbf7f47dc6f516ecc9e21311262c9", func := "waywarden/waywardenlaw10.NeighBounds", spec := "neighBounds", inPlace := ["maps.clone"], unfollowed := true, recurses := true, named := ["waywarden/neigh.faceBounds"], plainKeys := false, apart := false, laid := [("waywarden/neigh.faceBounds", laid_waywarden_neigh_faceBounds)] }
def NeighBoundsSaid : Prop := neighBoundsRow.holds Tryd.pinned (OpenSpec.ofChange neighBoundsSpec)

/-- ITS FALSE NEIGHBOUR: 'it returns false'. Refute it at one input. -/
def neighBoundsWrong : ChangeSpec := { name := "neighBounds", fn := fun _ => fun
  | [d1, d2] => { results := [.lit (.bool false)], args := [d1, d2] }
  | _ => none }
def NeighBoundsWrongFalsely : Prop := neighBoundsRow.holds Tryd.pinned (OpenSpec.ofChange neighBoundsWrong)

/-- 'waywardenlaw10.NeighCopies': WHATEVER THE INPUT: true; the input reads as it did. -/
def neighCopiesSpec : ChangeSpec := { name := "neighCopies", fn := fun _ => fun
  | [d1, d2, d3] => { results := [.lit (.bool true)], args := [d1, d2, d3] }
  | _ => none }
def neighCopiesRow : OpenClaim := { program := "ytahkhecfnimdbaadoor", sum := "8ee9ac35f01f807b973e2ccdb7db34cb7c3cbf7f47dc6f516ecc9e21311262c9", func := "waywarden/waywardenlaw10.NeighCopies", spec := "neighCopies", inPlace := ["maps.clone"], unfollowed := true, recurses := true, named := ["waywarden/neigh.faceBounds"], plainKeys := false, apart := false, laid := [("waywarden/neigh.faceBounds", laid_waywarden_neigh_faceBounds)] }
def NeighCopiesSaid : Prop := neighCopiesRow.holds Tryd.pinned (OpenSpec.ofChange neighCopiesSpec)

/-- ITS FALSE NEIGHBOUR: 'it returns false'. Refute it at one input. -/
def neighCopiesWrong : ChangeSpec := { name := "neighCopies", fn := fun _ => fun
  | [d1, d2, d3] => { results := [.lit (.bool false)], args := [d1, d2, d3] }
  | _ => none }
def NeighCopiesWrongFalsely : Prop := neighCopiesRow.holds Tryd.pinned (OpenSpec.ofChange neighCopiesWrong)

/- THE SECOND FORM. 'bulk': how many values and letters a reading holds, each counted each time it is reached (what is shared counts as often as it is met; a slice's spare places count too). A statement '..UptoSaid' is the law's where the arguments, and the package variables that the reading takes, are together of bulk at most 1048576: NARROWER than '..Said'. Prove '..Said' where nothing that the law and all that it calls make is longer than what came in: it says more and counts as full. Else prove '..UptoSaid'. A law counts once. -/
mutual
def uptoBulk {H : Type} : DataW H → Nat
  | .lit (.string bytes) => bytes.length + 1
  | .lit _ => 1
  | .nil => 1
  | .ptr d => uptoBulk d + 1
  | .slice elems spare => uptoBulkAll elems + uptoBulkAll spare + 1
  | .agg parts => uptoBulkAll parts + 1
  | .iface _ d => uptoBulk d + 1
  | .map entries => uptoBulkEntries entries + 1
  | .held _ => 1
def uptoBulkAll {H : Type} : List (DataW H) → Nat
  | [] => 0
  | d :: r => uptoBulk d + uptoBulkAll r
def uptoBulkEntries {H : Type} : List (Lit × DataW H) → Nat
  | [] => 0
  | x :: r => uptoBulkEntry x + uptoBulkEntries r
def uptoBulkEntry {H : Type} : Lit × DataW H → Nat
  | (.string bytes, d) => bytes.length + uptoBulk d + 1
  | (_, d) => uptoBulk d + 1
 end
def uptoSmall : (H : Type) → List (DataW H) → Bool := fun _ ds => decide (uptoBulkAll ds ≤ 1048576)
def OpenSpec.upto (s : _root_.Go.ChangeSpec) : _root_.Go.OpenSpec := { _root_.Go.OpenSpec.ofChange s with cond := some uptoSmall }

/-- 'waywardenlaw10.NeighHolds', WHERE WHAT IT READS IS OF BULK AT MOST 1048576: true; the input reads as it did. -/
def neighHoldsUptoRow : OpenClaim := { program := "ytahkhecfnimdbaadoor", sum := "8ee9ac35f01f807b973e2ccdb7db34cb7c3cbf7f47dc6f516ecc9e21311262c9", func := "waywarden/waywardenlaw10.NeighHolds", spec := "neighHolds", unfollowed := true, recurses := true, named := ["waywarden/neigh.faceBounds"], plainKeys := false, apart := false, laid := [("waywarden/neigh.faceBounds", laid_waywarden_neigh_faceBounds)], narrowed := true }
def NeighHoldsUptoSaid : Prop := neighHoldsUptoRow.holds Tryd.pinned (OpenSpec.upto neighHoldsSpec)

/-- 'waywardenlaw10.NeighAll', WHERE WHAT IT READS IS OF BULK AT MOST 1048576: true; the input reads as it did. -/
def neighAllUptoRow : OpenClaim := { program := "ytahkhecfnimdbaadoor", sum := "8ee9ac35f01f807b973e2ccdb7db34cb7c3cbf7f47dc6f516ecc9e21311262c9", func := "waywarden/waywardenlaw10.NeighAll", spec := "neighAll", inPlace := ["maps.clone"], unfollowed := true, recurses := true, named := ["waywarden/neigh.faceBounds"], plainKeys := false, apart := false, laid := [("waywarden/neigh.faceBounds", laid_waywarden_neigh_faceBounds)], narrowed := true }
def NeighAllUptoSaid : Prop := neighAllUptoRow.holds Tryd.pinned (OpenSpec.upto neighAllSpec)

/-- 'waywardenlaw10.NeighPlays', WHERE WHAT IT READS IS OF BULK AT MOST 1048576: true; the input reads as it did. -/
def neighPlaysUptoRow : OpenClaim := { program := "ytahkhecfnimdbaadoor", sum := "8ee9ac35f01f807b973e2ccdb7db34cb7c3cbf7f47dc6f516ecc9e21311262c9", func := "waywarden/waywardenlaw10.NeighPlays", spec := "neighPlays", inPlace := ["maps.clone"], unfollowed := true, recurses := true, named := ["waywarden/neigh.faceBounds"], plainKeys := false, apart := false, laid := [("waywarden/neigh.faceBounds", laid_waywarden_neigh_faceBounds)], narrowed := true }
def NeighPlaysUptoSaid : Prop := neighPlaysUptoRow.holds Tryd.pinned (OpenSpec.upto neighPlaysSpec)

/-- 'waywardenlaw10.NeighBounds', WHERE WHAT IT READS IS OF BULK AT MOST 1048576: true; the input reads as it did. -/
def neighBoundsUptoRow : OpenClaim := { program := "ytahkhecfnimdbaadoor", sum := "8ee9ac35f01f807b973e2ccdb7db34cb7c3cbf7f47dc6f516ecc9e21311262c9", func := "waywarden/waywardenlaw10.NeighBounds", spec := "neighBounds", inPlace := ["maps.clone"], unfollowed := true, recurses := true, named := ["waywarden/neigh.faceBounds"], plainKeys := false, apart := false, laid := [("waywarden/neigh.faceBounds", laid_waywarden_neigh_faceBounds)], narrowed := true }
def NeighBoundsUptoSaid : Prop := neighBoundsUptoRow.holds Tryd.pinned (OpenSpec.upto neighBoundsSpec)

/-- 'waywardenlaw10.NeighCopies', WHERE WHAT IT READS IS OF BULK AT MOST 1048576: true; the input reads as it did. -/
def neighCopiesUptoRow : OpenClaim := { program := "ytahkhecfnimdbaadoor", sum := "8ee9ac35f01f807b973e2ccdb7db34cb7c3cbf7f47dc6f516ecc9e21311262c9", func := "waywarden/waywardenlaw10.NeighCopies", spec := "neighCopies", inPlace := ["maps.clone"], unfollowed := true, recurses := true, named := ["waywarden/neigh.faceBounds"], plainKeys := false, apart := false, laid := [("waywarden/neigh.faceBounds", laid_waywarden_neigh_faceBounds)], narrowed := true }
def NeighCopiesUptoSaid : Prop := neighCopiesUptoRow.holds Tryd.pinned (OpenSpec.upto neighCopiesSpec)

end Rows
end Go.Proofs.YtahkhecfnimdbaaDoor
