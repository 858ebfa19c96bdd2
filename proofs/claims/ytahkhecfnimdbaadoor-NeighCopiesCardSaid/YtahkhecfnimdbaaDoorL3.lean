/- A call that came in, opened. -/
import Derived.Test.YtahkhecfnimdbaaDoorL0
namespace Go.Proofs.YtahkhecfnimdbaaDoor
open Go.ChangeShapes Go.WideShapes Go.ChangeAt Go.RowKit

theorem bounds_i64 {x : Int} (h : (Lit.int .i64 x).wf = true) : -9223372036854775808 ≤ x ∧ x ≤ 9223372036854775807 := wf64 h

set_option maxRecDepth 100000 in
theorem arg_act {H : Type} {enc : TypeId × Value → H} {W : World} {r : Reach} {b0 base : Nat} {spare : Nat → Bool} {v : Value} {d : DataW H} {p : List MemPlace} (hv : Value.okWide Tryd.prog W r b0 33 v) (h : DataW.Trod enc Tryd.prog W base spare true 33 v d p) :
    ∃ what face bad addr more : Int, v = .agg #[.int .i64 what, .int .i64 face, .int .i64 bad, .int .u32 addr, .int .i64 more] ∧ ActB what face bad addr more := by
  obtain ⟨cs, rfl, hsz⟩ := okWide_struct Tryd.underlying33 hv
  obtain ⟨fuel, hf⟩ := h
  obtain ⟨y0, y1, y2, y3, y4, e, hB⟩ := five_parts hf
  obtain ⟨l⟩ := cs
  simp [Value.cells] at e
  subst e
  exact ⟨y0, y1, y2, y3, y4, rfl, hB⟩

end Go.Proofs.YtahkhecfnimdbaaDoor
