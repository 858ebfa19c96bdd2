/- Contracts of package prefix: Check, Of, Mask, Bit. -/
import Derived.Test.YtmmoccceafcfkaaDoorA1
import Derived.Deep.RegionHeld3
import Derived.WalkMore
import Derived.ScopeJumps
namespace Go.Proofs.YtmmoccceafcfkaaDoor
open Go.RowKit

/-- a scope whose run may jump forward once, to label l -/
theorem wp_scope_fwd {P : Program} {a : Act} {w : World} {Q : Exit → Act → World → Prop} {c rest : Code} (l : Nat) (hf : findLabel c l = some rest)
    (h : c.wp P (Exit.jump l (fun a w => rest.wp P (Exit.noGoto Q) a w) Q) a w) : (Code.scope c).wp P Q a w := by
  refine wp_scope_jumps l _ (fun _ _ => 0) hf h ?_
  intro a' w' hJ
  refine Code.wp_mono ?_ hJ
  intro e a2 w2 h2
  cases e <;> first | exact h2 | exact (h2 : False).elim

def chk (a n : Int) : Int := if rightB a n then 0 else 2
theorem chk_t {a n : Int} (h : rightB a n = true) : chk a n = 0 := by simp [chk, h]
theorem chk_f {a n : Int} (h : rightB a n = false) : chk a n = 2 := by simp [chk, h]

theorem ret_int {k : IntKind} {a b : Int} (h : a = b) : Ending.returned (.int k a) = .returned (.int k b) := by rw [h]

theorem pfx1 (w : World) (b : Nat) (a n : Int) (h0 : w.cell? ⟨b, 0, none⟩ = some (.int .u32 a)) (h1 : w.cell? ⟨b, 1, none⟩ = some (.int .i64 n)) : PfxAt w b [(a, n)] := by
  intro i hi
  obtain rfl : i = 0 := by simp at hi; omega
  exact ⟨h0, h1⟩
theorem pfx2 (w : World) (b : Nat) (a n a' n' : Int) (h0 : w.cell? ⟨b, 0, none⟩ = some (.int .u32 a)) (h1 : w.cell? ⟨b, 1, none⟩ = some (.int .i64 n)) (h2 : w.cell? ⟨b, 2, none⟩ = some (.int .u32 a')) (h3 : w.cell? ⟨b, 3, none⟩ = some (.int .i64 n')) : PfxAt w b [(a, n), (a', n')] := by
  intro i hi
  match i, hi with
  | 0, _ => exact ⟨h0, h1⟩
  | 1, _ => exact ⟨h2, h3⟩

/-- mayBe at one prefix -/
theorem mayBe1 (b : Nat) (a n : Int) (w : World) (r : Bool) (hr : rightB a n = r) (h0 : w.cell? ⟨b, 0, none⟩ = some (.int .u32 a)) (h1 : w.cell? ⟨b, 1, none⟩ = some (.int .i64 n)) :
    Calls Tryd.prog 58 #[.slice (some ⟨b, 0, none⟩) 1 1] w fun e w' => e = .returned (.bool r) ∧ Below w.heap.size w w' := by
  have := mayBe_any b [(a, n)] w (by simp) (pfx1 w b a n h0 h1) (World.block_lt_of_cell? w _ h0)
  simpa [hr] using this
theorem mayBe2 (b : Nat) (a n a' n' : Int) (w : World) (r r' : Bool) (hr : rightB a n = r) (hr' : rightB a' n' = r') (h0 : w.cell? ⟨b, 0, none⟩ = some (.int .u32 a)) (h1 : w.cell? ⟨b, 1, none⟩ = some (.int .i64 n))
   (h2 : w.cell? ⟨b, 2, none⟩ = some (.int .u32 a')) (h3 : w.cell? ⟨b, 3, none⟩ = some (.int .i64 n')) :
    Calls Tryd.prog 58 #[.slice (some ⟨b, 0, none⟩) 2 2] w fun e w' => e = .returned (.bool (r && r')) ∧ Below w.heap.size w w' := by
  have := mayBe_any b [(a, n), (a', n')] w (by simp) (pfx2 w b a n a' n' h0 h1 h2 h3) (World.block_lt_of_cell? w _ h0)
  simpa [hr, hr'] using this

set_option maxHeartbeats 400000 in
theorem Check_t (a n : Int) (w : World) (h : rightB a n = true) :
    Calls Tryd.prog 18 #[.agg #[.int .u32 a, .int .i64 n]] w fun e w' => e = .returned (.int .i64 0) ∧ Below w.heap.size w w' := by
  have H := Lib.hid h
  clear h
  go_enter Tryd.func18, Tryd.ntmps18
  go_wp2_with fail
  go_step3
  go_wp2_with (go_at_call 58; refine (mayBe1 _ a n _ true H.out ?_ ?_).mono ?_)
  · simp [go_sem]
  · simp [go_sem]
  rintro e w' ⟨rfl, hb⟩
  go_wp2
  rw [Exit.noGoto_ret]
  go_ret
  exact ⟨rfl, (((Below.refl _ _).alloc (Nat.le_refl _) _).alloc (by simp) _).trans (hb.mono (by simp; omega))⟩

set_option maxHeartbeats 400000 in
theorem Check_f (a n : Int) (w : World) (h : rightB a n = false) :
    Calls Tryd.prog 18 #[.agg #[.int .u32 a, .int .i64 n]] w fun e w' => e = .returned (.int .i64 2) ∧ Below w.heap.size w w' := by
  have H := Lib.hid h
  clear h
  go_enter Tryd.func18, Tryd.ntmps18
  go_wp2_with fail
  refine wp_scope_fwd 0 rfl ?_
  go_wp2_with (go_at_call 58; refine (mayBe1 _ a n _ false H.out ?_ ?_).mono ?_)
  · simp [go_sem]
  · simp [go_sem]
  rintro e w' ⟨rfl, hb⟩
  go_wp2
  go_step3
  refine ⟨rfl, ?_⟩
  go_wp2
  rw [Exit.noGoto_ret]
  go_ret
  exact ⟨rfl, (((Below.refl _ _).alloc (Nat.le_refl _) _).alloc (by simp) _).trans (hb.mono (by simp; omega))⟩


set_option maxHeartbeats 400000 in
theorem Of_t (a n : Int) (w : World) (h0 : 0 ≤ n) (h1 : n ≤ 32) :
    Calls Tryd.prog 13 #[.int .u32 a, .int .i64 n] w fun e w' => e = .returned (.tuple #[.agg #[.int .u32 (andM a n), .int .i64 n], .int .i64 0]) ∧ Below w.heap.size w w' := by
  have t1 : decide (n < 0) = false := by simp; omega
  have t2 : decide (32 < n) = false := by simp; omega
  go_enter Tryd.func13, Tryd.ntmps13
  go_wp2_with fail
  go_step3
  go_wp2_with (go_at_call 56; refine (mask_any _ _ (by omega) (by omega)).mono ?_; rintro e w' ⟨rfl, rfl⟩)
  rw [Exit.noGoto_ret]
  exact bodyPost_ret (v := .tuple #[.agg #[.int .u32 (andM a n), .int .i64 n], .int .i64 0]) (by simp [results, Tryd.results13, go_sem, andM]) rfl ⟨rfl, (Below.refl _ _).alloc (Nat.le_refl _) _⟩

set_option maxHeartbeats 400000 in
theorem Of_f (a n : Int) (w : World) (h : n < 0 ∨ 32 < n) :
    Calls Tryd.prog 13 #[.int .u32 a, .int .i64 n] w fun e w' => e = .returned (.tuple #[.agg #[.int .u32 0, .int .i64 0], .int .i64 2]) ∧ Below w.heap.size w w' := by
  rcases h with h | h
  · have t1 : decide (n < 0) = true := by simp; omega
    go_enter Tryd.func13, Tryd.ntmps13
    go_wp2_with fail
    refine wp_scope_fwd 0 rfl ?_
    go_wp2_with fail
    go_step3
    refine ⟨rfl, ?_⟩
    go_wp2_with fail
    rw [Exit.noGoto_ret]
    exact bodyPost_ret (v := .tuple #[.agg #[.int .u32 0, .int .i64 0], .int .i64 2]) (by simp [results, Tryd.results13, go_sem]) rfl ⟨rfl, (Below.refl _ _).alloc (Nat.le_refl _) _⟩
  · have t1 : decide (n < 0) = false := by simp; omega
    have t2 : decide (32 < n) = true := by simp; omega
    go_enter Tryd.func13, Tryd.ntmps13
    go_wp2_with fail
    refine wp_scope_fwd 0 rfl ?_
    go_wp2_with fail
    go_step3
    refine ⟨rfl, ?_⟩
    go_wp2_with fail
    rw [Exit.noGoto_ret]
    exact bodyPost_ret (v := .tuple #[.agg #[.int .u32 0, .int .i64 0], .int .i64 2]) (by simp [results, Tryd.results13, go_sem]) rfl ⟨rfl, (Below.refl _ _).alloc (Nat.le_refl _) _⟩

set_option maxHeartbeats 400000 in
theorem Mask_t (n : Int) (w : World) (h0 : 0 ≤ n) (h1 : n ≤ 32) :
    Calls Tryd.prog 14 #[.int .i64 n] w fun e w' => e = .returned (.tuple #[.int .u32 (mk n), .int .i64 0]) ∧ w = w' := by
  have t1 : decide (n < 0) = false := by simp; omega
  have t2 : decide (32 < n) = false := by simp; omega
  go_enter Tryd.func14, Tryd.ntmps14
  go_wp2_with fail
  go_step3
  go_wp2_with (go_at_call 56; refine (mask_any _ _ (by omega) (by omega)).mono ?_; rintro e w' ⟨rfl, rfl⟩)
  rw [Exit.noGoto_ret]
  go_ret2
  exact ⟨rfl, rfl⟩

set_option maxHeartbeats 400000 in
theorem Mask_f (n : Int) (w : World) (h : n < 0 ∨ 32 < n) :
    Calls Tryd.prog 14 #[.int .i64 n] w fun e w' => e = .returned (.tuple #[.int .u32 0, .int .i64 2]) ∧ w = w' := by
  rcases h with h | h
  · have t1 : decide (n < 0) = true := by simp; omega
    go_enter Tryd.func14, Tryd.ntmps14
    go_wp2_with fail
    refine wp_scope_fwd 0 rfl ?_
    go_wp2_with fail
    go_step3
    refine ⟨rfl, ?_⟩
    go_wp2_with fail
    rw [Exit.noGoto_ret]
    go_ret2
    exact ⟨rfl, rfl⟩
  · have t1 : decide (n < 0) = false := by simp; omega
    have t2 : decide (32 < n) = true := by simp; omega
    go_enter Tryd.func14, Tryd.ntmps14
    go_wp2_with fail
    refine wp_scope_fwd 0 rfl ?_
    go_wp2_with fail
    go_step3
    refine ⟨rfl, ?_⟩
    go_wp2_with fail
    rw [Exit.noGoto_ret]
    go_ret2
    exact ⟨rfl, rfl⟩
end Go.Proofs.YtmmoccceafcfkaaDoor
