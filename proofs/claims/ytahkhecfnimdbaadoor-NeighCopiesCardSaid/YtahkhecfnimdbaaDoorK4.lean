/- Contract: Hear, where it is refused. -/
import Derived.Test.YtahkhecfnimdbaaDoorK3
import Derived.Test.YtahkhecfnimdbaaDoorB2
namespace Go.Proofs.YtahkhecfnimdbaaDoor
open Go.RowKit

/-- the bounds of a face, in memory -/
structure FB (w : World) : Prop where
  c0 : w.cell? ⟨0, 0, none⟩ = some (.int .i64 0)
  c1 : w.cell? ⟨0, 1, none⟩ = some (.int .i64 15)
theorem lt_cell {w : World} {a : Addr} {v : Value} (h : w.cell? a = some v) : a.block < w.heap.size := by
  unfold World.cell? at h
  by_cases hl : a.block < w.heap.size
  · exact hl
  · rw [Array.getElem?_eq_none (by omega)] at h
    cases h
theorem cell_below {w w' : World} (hb : Below w.heap.size w w') {a : Addr} {v : Value} (h : w.cell? a = some v) : w'.cell? a = some v :=
  (grown_below (row := none) hb).cell h (by simp)
theorem FB.below {w w' : World} (h : FB w) (hb : Below w.heap.size w w') : FB w' := ⟨cell_below hb h.c0, cell_below hb h.c1⟩

abbrev kObj (f a : Int) : Obj := Obj.cells #[Value.int IntKind.i64 f, Value.int IntKind.u32 a] 66
theorem below_k (w : World) (o : Obj) : Below w.heap.size w (w.alloc o) := (Below.refl _ w).alloc (Nat.le_refl _) _

/-- may one be heard of? -/
def argB (f a bad : Int) : Bool := decide (0 ≤ f) && decide (f ≤ 15) && decide (kindI a = 6) && decide (0 ≤ bad)

set_option maxRecDepth 100000 in
set_option maxHeartbeats 4000000 in
theorem Hear_arg (p m : Nat) (T : List Rec) (now lost f a nw bad : Int) (w : World) (h : NS w p m T now lost) (hF : FB w) (a0 : 0 ≤ a) (a1 : a < 4294967296) (hB : argB f a bad = false) :
    Calls Tryd.prog 11 #[.pointer (some ⟨p, 0, none⟩), .int .i64 f, .int .u32 a, .int .i64 nw, .int .i64 bad] w fun e w' => e = .returned (.int .i64 2) ∧ Below w.heap.size w w' := by
  have g0 := hF.c0
  have g1 := hF.c1
  have lt0 : 0 < w.heap.size := lt_cell g0
  have H := Lib.hid h
  clear h hF
  by_cases t1 : f < 0
  · replace t1 : decide (f < 0) = true := by simp [t1]
    go_enter Tryd.func11, Tryd.ntmps11
    go_wp2_with fail
    refine wp_scope_fwd 0 rfl ?_
    go_wp2_with (go_at_call 26; refine (none_t _ _ _ _ _ _ (H.out.below (below_k _ _))).mono ?_; rintro e w' ⟨rfl, rfl⟩)
    go_step3
    refine ⟨rfl, ?_⟩
    go_wp2_with fail
    rw [Exit.noGoto_ret]
    go_ret
    exact ⟨rfl, below_k _ _⟩
  by_cases t2 : 15 < f
  · replace t1 : decide (f < 0) = false := by simp; omega
    replace t2 : decide (15 < f) = true := by simp [t2]
    go_enter Tryd.func11, Tryd.ntmps11
    go_wp2_with fail
    refine wp_scope_fwd 0 rfl ?_
    go_wp2_with (go_at_call 26; refine (none_t _ _ _ _ _ _ (H.out.below (below_k _ _))).mono ?_; rintro e w' ⟨rfl, rfl⟩)
    go_step3
    refine ⟨rfl, ?_⟩
    go_wp2_with fail
    rw [Exit.noGoto_ret]
    go_ret
    exact ⟨rfl, below_k _ _⟩
  by_cases t3 : kindI a = 6
  · have t4 : bad < 0 := by
      have c1 : 0 ≤ f := by omega
      have c2 : f ≤ 15 := by omega
      simp [argB, c1, c2, t3] at hB
      omega
    replace t1 : decide (f < 0) = false := by simp; omega
    replace t2 : decide (15 < f) = false := by simp; omega
    replace t4 : decide (bad < 0) = true := by simp [t4]
    go_enter Tryd.func11, Tryd.ntmps11
    go_wp2_with fail
    refine wp_scope_fwd 0 rfl ?_
    go_wp2_with (first | (go_at_call 26; refine (none_t _ _ _ _ _ _ (H.out.below (below_k _ _))).mono ?_; rintro e w' ⟨rfl, rfl⟩) | (go_at_call 27; refine (Kind_any _ _ a0 a1).mono ?_; rintro e w1 ⟨rfl, hb1⟩))
    all_goals skip
    go_step3
    refine ⟨rfl, ?_⟩
    go_wp2_with fail
    rw [Exit.noGoto_ret]
    go_ret
    exact ⟨rfl, (below_k _ _).trans (hb1.mono (below_k _ _).size)⟩
  · replace t1 : decide (f < 0) = false := by simp; omega
    replace t2 : decide (15 < f) = false := by simp; omega
    go_enter Tryd.func11, Tryd.ntmps11
    go_wp2_with fail
    refine wp_scope_fwd 0 rfl ?_
    go_wp2_with (first | (go_at_call 26; refine (none_t _ _ _ _ _ _ (H.out.below (below_k _ _))).mono ?_; rintro e w' ⟨rfl, rfl⟩) | (go_at_call 27; refine (Kind_any _ _ a0 a1).mono ?_; rintro e w1 ⟨rfl, hb1⟩))
    all_goals skip
    go_step3
    refine ⟨rfl, ?_⟩
    go_wp2_with fail
    rw [Exit.noGoto_ret]
    go_ret
    exact ⟨rfl, (below_k _ _).trans (hb1.mono (below_k _ _).size)⟩

theorem argB_iff {f a bad : Int} : argB f a bad = true ↔ 0 ≤ f ∧ f ≤ 15 ∧ kindI a = 6 ∧ 0 ≤ bad := by simp [argB, and_assoc]

set_option maxRecDepth 100000 in
set_option maxHeartbeats 4000000 in
theorem Hear_time (p m : Nat) (T : List Rec) (now lost f a nw bad : Int) (w : World) (h : NS w p m T now lost) (hF : FB w) (a0 : 0 ≤ a) (a1 : a < 4294967296) (hB : argB f a bad = true) (hT : nw < now ∨ 4611686018427387904 < nw) :
    Calls Tryd.prog 11 #[.pointer (some ⟨p, 0, none⟩), .int .i64 f, .int .u32 a, .int .i64 nw, .int .i64 bad] w fun e w' => e = .returned (.int .i64 170) ∧ Below w.heap.size w w' := by
  have g0 := hF.c0
  have g1 := hF.c1
  have lt0 : 0 < w.heap.size := lt_cell g0
  have H := Lib.hid h
  clear h hF
  obtain ⟨b1, b2, b3, b4⟩ := argB_iff.1 hB
  clear hB
  have t1 : decide (f < 0) = false := by simp; omega
  have t2 : decide (15 < f) = false := by simp; omega
  have t4 : decide (bad < 0) = false := by simp; omega
  clear b1 b2 b4
  by_cases t5 : nw < now
  · replace t5 : decide (nw < now) = true := by simp [t5]
    clear hT
    go_enter Tryd.func11, Tryd.ntmps11
    go_wp2_with fail
    refine wp_scope_fwd 0 rfl ?_
    go_wp2_with (first | (go_at_call 26; refine (none_t _ _ _ _ _ _ (H.out.below (below_k _ _))).mono ?_; rintro e w' ⟨rfl, rfl⟩) | (go_at_call 27; refine (Kind_any _ _ a0 a1).mono ?_; rintro e w1 ⟨rfl, hb1⟩; have hq := (below_k _ _).trans (hb1.mono (below_k _ _).size); have j1 := (H.out.below hq).c1; clear hb1))
    go_step3
    refine ⟨rfl, ?_⟩
    go_wp2_with fail
    rw [Exit.noGoto_ret]
    go_ret
    exact ⟨rfl, hq⟩
  · have t6 : decide (4611686018427387904 < nw) = true := by simp; omega
    replace t5 : decide (nw < now) = false := by simp; omega
    clear hT
    go_enter Tryd.func11, Tryd.ntmps11
    go_wp2_with fail
    refine wp_scope_fwd 0 rfl ?_
    go_wp2_with (first | (go_at_call 26; refine (none_t _ _ _ _ _ _ (H.out.below (below_k _ _))).mono ?_; rintro e w' ⟨rfl, rfl⟩) | (go_at_call 27; refine (Kind_any _ _ a0 a1).mono ?_; rintro e w1 ⟨rfl, hb1⟩; have hq := (below_k _ _).trans (hb1.mono (below_k _ _).size); have j1 := (H.out.below hq).c1; clear hb1))
    go_step3
    refine ⟨rfl, ?_⟩
    go_wp2_with fail
    rw [Exit.noGoto_ret]
    go_ret
    exact ⟨rfl, hq⟩
end Go.Proofs.YtahkhecfnimdbaaDoor
