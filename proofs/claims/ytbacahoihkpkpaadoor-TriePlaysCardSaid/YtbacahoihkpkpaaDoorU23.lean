/- TriePlays: every list of calls. -/
import Derived.Test.YtbacahoihkpkpaaDoorU22
namespace Go.Proofs.YtbacahoihkpkpaaDoor
open Go.RowKit Go.Shelf Go.Maps

set_option maxRecDepth 100000 in
set_option maxHeartbeats 4000000 in
theorem plays_more (w : World) (hR : RelsAt w) (base : Option Addr) (k c : Nat) (hk : 40 < k) (hm : k ≤ 9223372036854775807) :
    Calls Tryd.prog 6 #[.slice base k c] w fun e w' => e = .returned (.bool true) ∧ Below w.heap.size w w' := by
  have t1 : decide ((40 : Int) < (k : Int)) = true := by simp; omega
  have HR := Lib.hid hR
  clear hR
  go_enter Tryd.func6, Tryd.ntmps6
  go_wp2_with (go_at_call 9; with_reducible refine (works_any _ HR.out).mono ?_; rintro e w9 ⟨rfl, hb9⟩; have HB9 := Lib.hid hb9; clear hb9)
  go_ret
  exact ⟨rfl, HB9.out⟩
theorem TriePlays_all (w : World) (hR : RelsAt w) (base : Option Addr) (b o k c : Nat) (what a n val : Nat → Int) (h : ActsIn w base b o k what a n val) (hm : k ≤ 9223372036854775807) :
    Calls Tryd.prog 6 #[.slice base k c] w fun e w' => e = .returned (.bool true) ∧ Below w.heap.size w w' := by
  by_cases h1 : 40 < k
  · exact plays_more w hR base k c h1 hm
  · exact TriePlays_any w hR base b o k c what a n val h (by omega)
end Go.Proofs.YtbacahoihkpkpaaDoor
