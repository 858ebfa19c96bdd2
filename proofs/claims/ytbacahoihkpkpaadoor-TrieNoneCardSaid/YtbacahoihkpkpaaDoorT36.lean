/- TrieNone: every call, every number. -/
import Derived.Test.YtbacahoihkpkpaaDoorT35
import Derived.Test.YtbacahoihkpkpaaDoorL1
namespace Go.Proofs.YtbacahoihkpkpaaDoor
open Go.RowKit Go.Shelf Go.Maps

set_option maxRecDepth 100000 in
set_option maxHeartbeats 4000000 in
theorem none_more (w : World) (hR : RelsAt w) (what pa pn val a more : Int) (hm : more < -1 ∨ 1 < more) :
    Calls Tryd.prog 8 #[.agg #[.int .i64 what, .int .u32 pa, .int .i64 pn, .int .i64 val], .int .u32 a, .int .i64 more] w fun e w' => e = .returned (.bool true) ∧ Below w.heap.size w w' := by
  have b0 : Below w.heap.size w (w.alloc (.cells #[.int .i64 what, .int .u32 pa, .int .i64 pn, .int .i64 val] 61)) := (Below.refl _ w).alloc (Nat.le_refl _) _
  have HR := Lib.hid (hR.below b0)
  have HB0 := Lib.hid b0
  clear b0
  rcases hm with hm | hm
  · have t1 : decide (more < -1) = true := by simpa using hm
    go_enter Tryd.func8, Tryd.ntmps8
    go_wp2_with (go_at_call 9; with_reducible refine (works_any _ HR.out).mono ?_; rintro e w9 ⟨rfl, hb9⟩; have HB9 := Lib.hid hb9; clear hb9)
    go_ret
    exact ⟨rfl, bthen HB0.out HB9.out⟩
  · have t1 : decide (more < -1) = false := by (simp; omega)
    have t2 : decide (1 < more) = true := by simpa using hm
    go_enter Tryd.func8, Tryd.ntmps8
    go_wp2_with (go_at_call 9; with_reducible refine (works_any _ HR.out).mono ?_; rintro e w9 ⟨rfl, hb9⟩; have HB9 := Lib.hid hb9; clear hb9)
    go_ret
    exact ⟨rfl, bthen HB0.out HB9.out⟩
theorem TrieNone_all (w : World) (hR : RelsAt w) (what pa pn val a more : Int) :
    Calls Tryd.prog 8 #[.agg #[.int .i64 what, .int .u32 pa, .int .i64 pn, .int .i64 val], .int .u32 a, .int .i64 more] w fun e w' => e = .returned (.bool true) ∧ Below w.heap.size w w' := by
  by_cases h : more < -1 ∨ 1 < more
  · exact none_more w hR what pa pn val a more h
  · exact TrieNone_any w hR what pa pn val a more (511 + more).toNat (by omega) (by omega) (by omega)
end Go.Proofs.YtbacahoihkpkpaaDoor
