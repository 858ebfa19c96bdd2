/- A slice of addresses that came in, opened. -/
import Derived.Test.YtmmoccceafcfkaaDoorL0
import Derived.Test.YtmmoccceafcfkaaDoorH2
import Derived.ChangeSlices
namespace Go.Proofs.YtmmoccceafcfkaaDoor
open Go.ChangeShapes Go.WideShapes Go.ChangeAt Go.RowKit

theorem cells23 : Tryd.prog.cellsOf 23 = 1 := by kernel_rfl

theorem arg_u32 {H : Type} {enc : TypeId × Value → H} {W : World} {base : Option Addr} {len cap : Nat} {d : DataW H} {p : List MemPlace} (h : DataW.Trod enc Tryd.prog W 0 (fun _ => true) true 83 (.slice base len cap) d p) (hlt : ∀ x ∈ p, x.block < W.heap.size) :
    ∃ (l : List Int) (b off : Nat), l.length = len ∧ ArgU W base b off l ∧ (l ≠ [] → b < W.heap.size) ∧ len ≤ maxLen := by
  obtain ⟨fuel, hf⟩ := h
  rcases open_ints Tryd.underlying83 Tryd.underlying23 cells23 hf with ⟨hcs, hx⟩ | ⟨a, len', cap', zs, hcs, _, hl, hm, hz, hx, hcell, hwz⟩
  · simp [Value.cells] at hcs
    obtain ⟨rfl, rfl, rfl⟩ := hcs
    exact ⟨[], 0, 0, rfl, ⟨fun i z hz => by simp at hz, fun z hz => by cases hz⟩, fun h => absurd rfl h, by simp⟩
  · simp [Value.cells] at hcs
    obtain ⟨rfl, rfl, rfl⟩ := hcs
    simp only [Prod.mk.injEq] at hx
    obtain ⟨rfl, rfl⟩ := hx
    simp only [if_true] at hz
    obtain ⟨b, off, spot⟩ := a
    refine ⟨zs.take len, b, off, by simp; omega, ⟨fun i z hzi => ?_, fun z hzi => ?_⟩, fun hne => ?_, by omega⟩
    · have hi : i < len := by
        have := (List.getElem?_eq_some_iff.1 hzi).1
        simp at this; omega
      have hspot : spot = none := by simpa [Addr.add] using World.cell?_spot (hcell 0 (by omega))
      subst hspot
      refine ⟨rfl, ?_⟩
      rw [← add_plain, hcell i (by omega)]
      rw [List.getElem?_take_of_lt hi] at hzi
      simp [List.getD, hzi]
    · have := bounds_u32 (hwz z (List.mem_of_mem_take hzi))
      omega
    · have hlen : 0 < len := by
        cases len with
        | zero => simp at hne
        | succ n => omega
      exact hlt (.cell b off) (MemPlace.mem_row.2 ⟨0, by omega, by simp⟩)
end Go.Proofs.YtmmoccceafcfkaaDoor
