/- What every lift of this seat uses: the door's own heap; what the row's condition gives. -/
import Derived.Test.YtmmoccceafcfkaaDoorCards
import Derived.Test.YtmmoccceafcfkaaDoorTie
import Derived.WalkKit
import Derived.ProofKit
import Derived.OpenShut
import Derived.Deep.DeepHandedRow
import Derived.Lib.LaidTab
import Derived.Lib.SmallJoins
import Derived.Lib.AppendIntMem
import Derived.Laws.IdiomArrays
import Derived.LaidMore
import Derived.LaidSub
namespace Go.Proofs.YtmmoccceafcfkaaDoor
open Go.ChangeShapes Go.WideShapes Go.ChangeAt Go.RowKit

theorem own : ownKnob Tryd.prog.godebug = none := by kernel_rfl
theorem laidOut : laidOutB Tryd.prog = true := by kernel_rfl
theorem gPow : Tryd.prog.globalNamed "internal/strconv.uint64pow10" = some 1 := by kernel_rfl
theorem tPow : (Tryd.prog.globals[1]?).map (·.type) = some 161 := by kernel_rfl
theorem cells161 : Tryd.prog.cellsOf 161 = 20 := by kernel_rfl
theorem cells119 : Tryd.prog.cellsOf 119 = 1 := by kernel_rfl

theorem pow_of {W : World} {laid : List (String × DataW Unit)} (h : laidMetH Tryd.prog laid W) (hf : laid.filter (fun x => x.1 == "internal/strconv.uint64pow10") = [("internal/strconv.uint64pow10", Lib.tabData .u64 Lib.pow10Tab)])
    (hp : (laid.all fun x => x.2.handleName?.isNone) = true) : Lib.TabIs Tryd.prog W "internal/strconv.uint64pow10" .u64 Lib.pow10Tab := by
  rw [MakeChecks.laidMetH_plain _ _ _ hp] at h
  have h2 := h.filter (fun x => x.1 == "internal/strconv.uint64pow10")
  rw [hf] at h2
  exact Lib.tabIs_of_head (rest := []) gPow tPow Tryd.underlying161 Tryd.underlying119 cells119 cells161 h2
end Go.Proofs.YtmmoccceafcfkaaDoor
