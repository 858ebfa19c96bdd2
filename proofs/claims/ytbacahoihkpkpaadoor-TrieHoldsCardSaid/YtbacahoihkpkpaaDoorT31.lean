/- TrieHolds: every list. -/
import Derived.Test.YtbacahoihkpkpaaDoorT30
import Derived.Test.YtbacahoihkpkpaaDoorL1
namespace Go.Proofs.YtbacahoihkpkpaaDoor
open Go.RowKit Go.Shelf Go.Maps

set_option maxRecDepth 100000 in
set_option maxHeartbeats 4000000 in
theorem holds_more (w : World) (hR : RelsAt w) (base : Option Addr) (k c : Nat) (gone a : Int) (hk : 25 < k) (hm : k ≤ 9223372036854775807) :
    Calls Tryd.prog 4 #[.slice base k c, .int .u32 gone, .int .u32 a] w fun e w' => e = .returned (.bool true) ∧ Below w.heap.size w w' := by
  have t1 : decide ((25 : Int) < (k : Int)) = true := by simp; omega
  have HR := Lib.hid hR
  clear hR
  go_enter Tryd.func4, Tryd.ntmps4
  go_wp2_with (go_at_call 9; with_reducible refine (works_any _ HR.out).mono ?_; rintro e w9 ⟨rfl, hb9⟩; have HB9 := Lib.hid hb9; clear hb9)
  go_ret
  exact ⟨rfl, HB9.out⟩

theorem TrieHolds_all (w : World) (hR : RelsAt w) (base : Option Addr) (b o k c : Nat) (pa pn : Nat → Int) (gone a : Int) (h : PIn w base b o k pa pn) (hm : k ≤ 9223372036854775807) (hg : 0 ≤ gone ∧ gone < 4294967296) (ha : 0 ≤ a ∧ a < 4294967296) :
    Calls Tryd.prog 4 #[.slice base k c, .int .u32 gone, .int .u32 a] w fun e w' => e = .returned (.bool true) ∧ Below w.heap.size w w' := by
  by_cases h1 : 25 < k
  · exact holds_more w hR base k c gone a h1 hm
  · obtain ⟨A, hA, rfl⟩ := addr_key ha.1 ha.2
    exact TrieHolds_any w hR base b o k c pa pn gone A hA h (by omega) hg.1 hg.2
end Go.Proofs.YtbacahoihkpkpaaDoor
