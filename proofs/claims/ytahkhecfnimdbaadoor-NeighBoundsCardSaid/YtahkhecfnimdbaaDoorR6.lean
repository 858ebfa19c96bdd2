/- NeighBounds at every input; a call that came in, opened. -/
import Derived.Test.YtahkhecfnimdbaaDoorR5
import Derived.Test.YtahkhecfnimdbaaDoorL0
namespace Go.Proofs.YtahkhecfnimdbaaDoor
open Go.ChangeShapes Go.WideShapes Go.ChangeAt Go.RowKit

theorem bounds_i64 {x : Int} (h : (Lit.int .i64 x).wf = true) : -9223372036854775808 ≤ x ∧ x ≤ 9223372036854775807 := wf64 h

set_option maxRecDepth 100000 in
theorem arg_act {H : Type} {enc : TypeId × Value → H} {W : World} {r : Reach} {b0 base : Nat} {spare : Nat → Bool} {v : Value} {d : DataW H} {p : List MemPlace} (hv : Value.okWide Tryd.prog W r b0 33 v) (h : DataW.Trod enc Tryd.prog W base spare true 33 v d p) :
    ∃ what face bad addr more : Int, v = .agg #[.int .i64 what, .int .i64 face, .int .i64 bad, .int .u32 addr, .int .i64 more] ∧ ActB what face bad addr more := by
  obtain ⟨cs, rfl, hsz⟩ := okWide_struct Tryd.underlying33 hv
  obtain ⟨fuel, hf⟩ := h
  obtain ⟨y0, y1, y2, y3, y4, e, hB⟩ := five_parts hf
  obtain ⟨l⟩ := cs
  simp [Value.cells] at e
  subst e
  exact ⟨y0, y1, y2, y3, y4, rfl, hB⟩

set_option maxHeartbeats 4000000 in
set_option maxRecDepth 100000 in
theorem bounds_out (w : World) (hF : FB w) (what face bad addr mr more : Int) (hm : more < -1 ∨ 1 < more) :
    Calls Tryd.prog 6 #[.agg #[.int .i64 what, .int .i64 face, .int .i64 bad, .int .u32 addr, .int .i64 mr], .int .i64 more] w fun e w' => e = .returned (.bool true) ∧ Below w.heap.size w w' := by
  have HF := Lib.hid (hF.below (below_k w (.cells #[.int .i64 what, .int .i64 face, .int .i64 bad, .int .u32 addr, .int .i64 mr] 33)))
  clear hF
  by_cases h1 : more < -1
  · have t1 : decide (more < -1) = true := by simp [h1]
    go_enter Tryd.func6, Tryd.ntmps6
    go_wp2_with (go_at_call 8; refine (works_any _ HF.out).mono ?_; rintro e w9 ⟨rfl, hb9⟩; have HB9 := Lib.hid hb9; clear hb9)
    go_ret
    exact ⟨rfl, bthen (below_k _ _) HB9.out⟩
  · have t1 : decide (more < -1) = false := by simp; omega
    have t2 : decide (1 < more) = true := by simp; omega
    go_enter Tryd.func6, Tryd.ntmps6
    go_wp2_with (go_at_call 8; refine (works_any _ HF.out).mono ?_; rintro e w9 ⟨rfl, hb9⟩; have HB9 := Lib.hid hb9; clear hb9)
    go_ret
    exact ⟨rfl, bthen (below_k _ _) HB9.out⟩

theorem NeighBounds_all (w : World) (hF : FB w) (what face bad addr mr more : Int) :
    Calls Tryd.prog 6 #[.agg #[.int .i64 what, .int .i64 face, .int .i64 bad, .int .u32 addr, .int .i64 mr], .int .i64 more] w fun e w' => e = .returned (.bool true) ∧ Below w.heap.size w w' := by
  by_cases h : more < -1 ∨ 1 < more
  · exact bounds_out w hF what face bad addr mr more h
  · have : more = -1 ∨ more = 0 ∨ more = 1 := by omega
    rcases this with rfl | rfl | rfl
    · exact bounds_m w hF what face bad addr mr
    · exact bounds_z w hF what face bad addr mr
    · exact bounds_p w hF what face bad addr mr
end Go.Proofs.YtahkhecfnimdbaaDoor
