/- NeighHolds: its tables in memory. -/
import Derived.Test.YtahkhecfnimdbaaDoorK10
namespace Go.Proofs.YtahkhecfnimdbaaDoor
open Go.RowKit Go.Maps

/-- a table of sixteen numbers in memory -/
def Arr (W : World) (b : Nat) (L : Nat → Int) : Prop := ∃ (cs : Array Value) (ty : TypeId), W.heap[b]? = some (.cells cs ty (0, 0)) ∧ cs.size = 16 ∧ ∀ i, i < 16 → cs[i]? = some (.int .i64 (L i))
section
variable {W : World} {b : Nat} {L : Nat → Int} (h : Arr W b L)
include h
theorem Arr.lt : b < W.heap.size := by obtain ⟨cs, ty, hb, _⟩ := h; exact (Array.getElem?_eq_some_iff.1 hb).1
theorem Arr.c (i : Nat) (hi : i < 16) : W.cell? ⟨b, i, none⟩ = some (.int .i64 (L i)) := by
  obtain ⟨cs, ty, hb, hs, hc⟩ := h
  simp [World.cell?, hb, hc i hi]
theorem Arr.f (i : Nat) : W.frozen? ⟨b, i, none⟩ = false := by
  obtain ⟨cs, ty, hb, hs, hc⟩ := h
  simp [World.frozen?, hb]
theorem Arr.block {W' : World} (hb : W'.heap[b]? = W.heap[b]?) : Arr W' b L := by
  obtain ⟨cs, ty, h1, h2⟩ := h
  exact ⟨cs, ty, hb.trans h1, h2⟩
theorem Arr.below {W' : World} (hb : Below W.heap.size W W') : Arr W' b L := h.block (hb.block b h.lt)
theorem Arr.kp {W' : World} {p m : Nat} (hk : Kp p m W W') (h1 : b ≠ p) (h2 : b ≠ m) : Arr W' b L := h.block (hk.block b h.lt h1 h2)
theorem Arr.set (i : Nat) (x : Int) (hi : i < 16) : Arr (W.setCell ⟨b, i, none⟩ (.int .i64 x)) b (fun j => if j = i then x else L j) := by
  obtain ⟨cs, ty, hb, hs, hc⟩ := h
  refine ⟨cs.setIfInBounds i (.int .i64 x), ty, ?_, by simp [hs], fun j hj => ?_⟩
  · have := heap_setCell_same W b i cs ty (.int .i64 x) hb
    simpa using this
  · by_cases e : j = i
    · subst e
      simp [hs, hj]
    · rw [Array.getElem?_setIfInBounds, if_neg (Ne.symm e)]
      simp only [if_neg e]
      exact hc j hj
theorem Arr.other {b' o : Nat} {v : Value} (hne : b ≠ b') : Arr (W.setCell ⟨b', o, none⟩ v) b L := h.block (Below.heap_setCell W _ v b hne)
end

end Go.Proofs.YtahkhecfnimdbaaDoor
