/- TrieFinds: every list of calls. -/
import Derived.Test.YtbacahoihkpkpaaDoorU15
namespace Go.Proofs.YtbacahoihkpkpaaDoor
open Go.RowKit Go.Shelf Go.Maps

set_option maxRecDepth 100000 in
set_option maxHeartbeats 4000000 in
theorem finds_more (w : World) (hR : RelsAt w) (base : Option Addr) (k c : Nat) (hk : 40 < k) (hm : k ≤ 9223372036854775807) (a pa pn many : Int) :
    Calls Tryd.prog 3 #[.slice base k c, .int .u32 a, .agg #[.int .u32 pa, .int .i64 pn], .int .i64 many] w fun e w' => e = .returned (.bool true) ∧ Below w.heap.size w w' := by
  have t1 : decide ((40 : Int) < (k : Int)) = true := by simp; omega
  have b1 : Below w.heap.size w (w.alloc (.cells #[.int .u32 pa, .int .i64 pn] 26)) := (Below.refl _ w).alloc (Nat.le_refl _) _
  have HR := Lib.hid (hR.below b1)
  have HB1 := Lib.hid b1
  clear b1 hR
  go_enter Tryd.func3, Tryd.ntmps3
  go_wp2_with (go_at_call 9; with_reducible refine (works_any _ HR.out).mono ?_; rintro e w9 ⟨rfl, hb9⟩; have HB9 := Lib.hid hb9; clear hb9)
  go_ret
  exact ⟨rfl, bthen HB1.out HB9.out⟩
theorem TrieFinds_all (w : World) (hR : RelsAt w) (base : Option Addr) (b o k c : Nat) (what a n val : Nat → Int) (h : ActsIn w base b o k what a n val) (hm : k ≤ 9223372036854775807) (x pa pn many : Int) (hx : 0 ≤ x ∧ x < 4294967296) (hp : 0 ≤ pa ∧ pa < 4294967296) :
    Calls Tryd.prog 3 #[.slice base k c, .int .u32 x, .agg #[.int .u32 pa, .int .i64 pn], .int .i64 many] w fun e w' => e = .returned (.bool true) ∧ Below w.heap.size w w' := by
  by_cases h1 : 40 < k
  · exact finds_more w hR base k c h1 hm x pa pn many
  · obtain ⟨A, hA, rfl⟩ := addr_key hx.1 hx.2
    exact TrieFinds_any w hR base b o k c what a n val h (by omega) A hA pa pn many hp.1 hp.2
end Go.Proofs.YtbacahoihkpkpaaDoor
