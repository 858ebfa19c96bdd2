/- TrieCopies: every list of calls. -/
import Derived.Test.YtbacahoihkpkpaaDoorU25
namespace Go.Proofs.YtbacahoihkpkpaaDoor
open Go.RowKit Go.Shelf Go.Maps

set_option maxRecDepth 100000 in
set_option maxHeartbeats 4000000 in
theorem copies_more (w : World) (hR : RelsAt w) (base : Option Addr) (k c : Nat) (hk : 30 < k) (hm : k ≤ 9223372036854775807) (xt xa xn xv yt ya yn yv : Int) :
    Calls Tryd.prog 7 #[.slice base k c, .agg #[.int .i64 xt, .int .u32 xa, .int .i64 xn, .int .i64 xv], .agg #[.int .i64 yt, .int .u32 ya, .int .i64 yn, .int .i64 yv]] w fun e w' => e = .returned (.bool true) ∧ Below w.heap.size w w' := by
  have t1 : decide ((30 : Int) < (k : Int)) = true := by simp; omega
  have b1 : Below w.heap.size w ((w.alloc (.cells #[.int .i64 xt, .int .u32 xa, .int .i64 xn, .int .i64 xv] 61)).alloc (.cells #[.int .i64 yt, .int .u32 ya, .int .i64 yn, .int .i64 yv] 61)) := ((Below.refl _ w).alloc (Nat.le_refl _) _).alloc (by simp) _
  have HR := Lib.hid (hR.below b1)
  have HB1 := Lib.hid b1
  clear b1 hR
  go_enter Tryd.func7, Tryd.ntmps7
  go_wp2_with (go_at_call 9; with_reducible refine (works_any _ HR.out).mono ?_; rintro e w9 ⟨rfl, hb9⟩; have HB9 := Lib.hid hb9; clear hb9)
  go_ret
  exact ⟨rfl, bthen HB1.out HB9.out⟩
theorem TrieCopies_all (w : World) (hR : RelsAt w) (base : Option Addr) (b o k c : Nat) (what a n val : Nat → Int) (h : ActsIn w base b o k what a n val) (hm : k ≤ 9223372036854775807) (xt xa xn xv yt ya yn yv : Int) (hx : 0 ≤ xa ∧ xa < 4294967296) (hy : 0 ≤ ya ∧ ya < 4294967296) :
    Calls Tryd.prog 7 #[.slice base k c, .agg #[.int .i64 xt, .int .u32 xa, .int .i64 xn, .int .i64 xv], .agg #[.int .i64 yt, .int .u32 ya, .int .i64 yn, .int .i64 yv]] w fun e w' => e = .returned (.bool true) ∧ Below w.heap.size w w' := by
  by_cases h1 : 30 < k
  · exact copies_more w hR base k c h1 hm xt xa xn xv yt ya yn yv
  · exact TrieCopies_any w hR base b o k c what a n val h (by omega) xt xa xn xv yt ya yn yv hx.1 hx.2 hy.1 hy.2
end Go.Proofs.YtbacahoihkpkpaaDoor
