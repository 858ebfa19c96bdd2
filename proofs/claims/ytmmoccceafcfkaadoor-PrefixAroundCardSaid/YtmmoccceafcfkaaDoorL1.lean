/- What the row's condition on prefix.rels gives. -/
import Derived.Test.YtmmoccceafcfkaaDoorL0
import Derived.Test.YtmmoccceafcfkaaDoorA5
namespace Go.Proofs.YtmmoccceafcfkaaDoor
open Go.ChangeShapes Go.WideShapes Go.ChangeAt Go.RowKit

theorem gRels : Tryd.prog.globalNamed "waywarden/prefix.rels" = some 0 := by kernel_rfl
theorem tRels : (Tryd.prog.globals[0]?).map (·.type) = some 97 := by kernel_rfl
theorem cells97 : Tryd.prog.cellsOf 97 = 4 := by kernel_rfl
theorem cells96 : Tryd.prog.cellsOf 96 = 2 := by kernel_rfl
theorem cells44 : Tryd.prog.cellsOf 44 = 1 := by kernel_rfl

theorem cells_of_rels {H : Type} {enc : TypeId × Value → H} {w : World} {base : Nat} {sp : Nat → Bool} {held : Bool} {fuel : Nat} {cs : List Value} {p : List MemPlace}
    (h : DataW.trod enc Tryd.prog w base sp held fuel 97 cs = some (Rows.laid_waywarden_prefix_rels, p)) : cs = [.int .i64 4, .int .i64 2, .int .i64 3, .int .i64 1] := by
  cases fuel with
  | zero => simp [DataW.trod] at h
  | succ fuel =>
    simp only [DataW.trod, Tryd.underlying97, cells96, cells97] at h
    split at h
    · rename_i hl
      obtain ⟨xs, hm, hx⟩ := Option.map_eq_some_iff.1 h
      obtain ⟨b0, e0, f0⟩ := Lib.mapM_at hm 0 0 (by simp)
      obtain ⟨b1, e1, f1⟩ := Lib.mapM_at hm 1 1 (by simp)
      have hxl : xs.length = 2 := by simpa using Lib.mapM_length hm
      match xs, hxl with
      | [x0, x1], _ =>
        simp at e0 e1
        subst e0 e1
        have hx1 := congrArg Prod.fst hx
        simp only [Rows.laid_waywarden_prefix_rels, DataW.agg.injEq, List.map_cons, List.map_nil, List.cons.injEq, and_true] at hx1
        obtain ⟨g0, g1⟩ := hx1
        obtain ⟨d0, p0⟩ := x0
        obtain ⟨d1, p1⟩ := x1
        simp only at g0 g1
        subst g0 g1
        have k0 := Lib.cells_of_tab (k := .i64) (zs := [4, 2]) Tryd.underlying96 Tryd.underlying44 cells44 cells96 f0
        have k1 := Lib.cells_of_tab (k := .i64) (zs := [3, 1]) Tryd.underlying96 Tryd.underlying44 cells44 cells96 f1
        match cs, hl with
        | [c0, c1, c2, c3], _ =>
          simp at k0 k1
          simp [k0, k1]
    · cases h

theorem rels_of {W : World} {laid : List (String × DataW Unit)} (h : laidMetH Tryd.prog laid W) (hf : laid.filter (fun x => x.1 == "waywarden/prefix.rels") = [("waywarden/prefix.rels", Rows.laid_waywarden_prefix_rels)])
    (hp : (laid.all fun x => x.2.handleName?.isNone) = true) : RelsAt W := by
  rw [MakeChecks.laidMetH_plain _ _ _ hp] at h
  have h2 := h.filter (fun x => x.1 == "waywarden/prefix.rels")
  rw [hf] at h2
  obtain ⟨ps, ⟨g', t', cs, fuel, p, q, hg', ht', hvar, hd, _, _⟩, _⟩ := h2
  obtain rfl := Option.some.inj (gRels.symm.trans hg')
  obtain rfl := Option.some.inj (tRels.symm.trans ht')
  have hc := cells_of_rels hd
  obtain ⟨l⟩ := cs
  simp only at hc
  subst hc
  have hv := fun i => World.var?_cell hg' hvar i
  refine ⟨?_, ?_, ?_, ?_⟩
  · have := hv 0; simpa using this
  · have := hv 1; simpa using this
  · have := hv 2; simpa using this
  · have := hv 3; simpa using this
end Go.Proofs.YtmmoccceafcfkaaDoor
