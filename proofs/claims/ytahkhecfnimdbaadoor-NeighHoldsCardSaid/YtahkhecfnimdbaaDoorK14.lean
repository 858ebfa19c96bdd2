/- NeighHolds: at every list of calls. -/
import Derived.Test.YtahkhecfnimdbaaDoorK13
import Derived.Test.YtahkhecfnimdbaaDoorL0
namespace Go.Proofs.YtahkhecfnimdbaaDoor
open Go.RowKit Go.Maps

set_option maxHeartbeats 4000000 in
set_option maxRecDepth 100000 in
theorem holds_more (w : World) (hF : FB w) (base : Option Addr) (k c : Nat) (hk : 40 < k) (hm : k ≤ 9223372036854775807) :
    Calls Tryd.prog 3 #[.slice base k c] w fun e w' => e = .returned (.bool true) ∧ Below w.heap.size w w' := by
  have t1 : decide ((40 : Int) < k) = true := by simp; omega
  have HF := Lib.hid hF
  clear hF
  go_enter Tryd.func3, Tryd.ntmps3
  go_wp2_with (go_at_call 8; refine (works_any _ HF.out).mono ?_; rintro e w9 ⟨rfl, hb9⟩; have HB9 := Lib.hid hb9; clear hb9)
  go_ret
  exact ⟨rfl, HB9.out⟩

set_option maxHeartbeats 4000000 in
set_option maxRecDepth 100000 in
theorem holds_zero (w : World) (hF : FB w) (base : Option Addr) (c : Nat) :
    Calls Tryd.prog 3 #[.slice base 0 c] w fun e w' => e = .returned (.bool true) ∧ Below w.heap.size w w' := by
  have HF := Lib.hid hF
  clear hF
  go_enter Tryd.func3, Tryd.ntmps3
  go_wp2_with (go_at_call 9; refine (New_nw _ HF.out).mono ?_; rintro e w1 ⟨⟨p, m, rfl, n0, hp, hm⟩, hb⟩; have N0 := Lib.hid n0; have HP := Lib.hid hp; have HM := Lib.hid hm; have HB := Lib.hid hb; clear n0 hp hm hb)
  refine wp_loop_rounds 1 ?_
  rw [rounds_succ]
  have hs := hstart (t1 := 27) (t2 := 29) N0.out HB.out HP.out HM.out
  have HS := Lib.hid hs
  clear hs
  go_wp2_with (go_at_call 8; refine (works_any _ HS.out.nw.fb).mono ?_; rintro e w9 ⟨rfl, hb9⟩; have HB9 := Lib.hid hb9; clear hb9)
  go_ret
  exact ⟨rfl, HS.out.bl.trans (HB9.out.mono HS.out.bl.size)⟩

theorem NeighHolds_all (w : World) (hF : FB w) (base : Option Addr) (k c b o : Nat) (what face bad addr more : Nat → Int) (h : ActsIn w base k b o what face bad addr more) (hm : k ≤ 9223372036854775807) :
    Calls Tryd.prog 3 #[.slice base k c] w fun e w' => e = .returned (.bool true) ∧ Below w.heap.size w w' := by
  by_cases h1 : 40 < k
  · exact holds_more w hF base k c h1 hm
  · by_cases h0 : k = 0
    · subst h0
      exact holds_zero w hF base c
    · obtain ⟨rfl, hb⟩ := h.at' (by omega)
      exact holds_any w hF b o k c what face bad addr more hb (by omega) (fun i => (h.bd i).a) h.is
end Go.Proofs.YtahkhecfnimdbaaDoor
