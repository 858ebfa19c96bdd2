/- Contracts of package prefix: Check, Of, Mask, Bit. -/
import Derived.Test.YtbacahoihkpkpaaDoorA1
import Derived.Deep.RegionHeld3
import Derived.WalkMore
import Derived.ScopeJumps
namespace Go.Proofs.YtbacahoihkpkpaaDoor
open Go.RowKit

/-- a scope whose run may jump forward once, to label l -/
theorem wp_scope_fwd {P : Program} {a : Act} {w : World} {Q : Exit → Act → World → Prop} {c rest : Code} (l : Nat) (hf : findLabel c l = some rest)
    (h : c.wp P (Exit.jump l (fun a w => rest.wp P (Exit.noGoto Q) a w) Q) a w) : (Code.scope c).wp P Q a w := by
  refine wp_scope_jumps l _ (fun _ _ => 0) hf h ?_
  intro a' w' hJ
  refine Code.wp_mono ?_ hJ
  intro e a2 w2 h2
  cases e <;> first | exact h2 | exact (h2 : False).elim

def chk (a n : Int) : Int := if rightB a n then 0 else 2
theorem chk_t {a n : Int} (h : rightB a n = true) : chk a n = 0 := by simp [chk, h]
theorem chk_f {a n : Int} (h : rightB a n = false) : chk a n = 2 := by simp [chk, h]

theorem ret_int {k : IntKind} {a b : Int} (h : a = b) : Ending.returned (.int k a) = .returned (.int k b) := by rw [h]

theorem pfx1 (w : World) (b : Nat) (a n : Int) (h0 : w.cell? ⟨b, 0, none⟩ = some (.int .u32 a)) (h1 : w.cell? ⟨b, 1, none⟩ = some (.int .i64 n)) : PfxAt w b [(a, n)] := by
  intro i hi
  obtain rfl : i = 0 := by simp at hi; omega
  exact ⟨h0, h1⟩
theorem pfx2 (w : World) (b : Nat) (a n a' n' : Int) (h0 : w.cell? ⟨b, 0, none⟩ = some (.int .u32 a)) (h1 : w.cell? ⟨b, 1, none⟩ = some (.int .i64 n)) (h2 : w.cell? ⟨b, 2, none⟩ = some (.int .u32 a')) (h3 : w.cell? ⟨b, 3, none⟩ = some (.int .i64 n')) : PfxAt w b [(a, n), (a', n')] := by
  intro i hi
  match i, hi with
  | 0, _ => exact ⟨h0, h1⟩
  | 1, _ => exact ⟨h2, h3⟩

/-- mayBe at one prefix -/
theorem mayBe1 (b : Nat) (a n : Int) (w : World) (r : Bool) (hr : rightB a n = r) (h0 : w.cell? ⟨b, 0, none⟩ = some (.int .u32 a)) (h1 : w.cell? ⟨b, 1, none⟩ = some (.int .i64 n)) :
    Calls Tryd.prog 59 #[.slice (some ⟨b, 0, none⟩) 1 1] w fun e w' => e = .returned (.bool r) ∧ Below w.heap.size w w' := by
  have := mayBe_any b [(a, n)] w (by simp) (pfx1 w b a n h0 h1) (World.block_lt_of_cell? w _ h0)
  simpa [hr] using this
theorem mayBe2 (b : Nat) (a n a' n' : Int) (w : World) (r r' : Bool) (hr : rightB a n = r) (hr' : rightB a' n' = r') (h0 : w.cell? ⟨b, 0, none⟩ = some (.int .u32 a)) (h1 : w.cell? ⟨b, 1, none⟩ = some (.int .i64 n))
   (h2 : w.cell? ⟨b, 2, none⟩ = some (.int .u32 a')) (h3 : w.cell? ⟨b, 3, none⟩ = some (.int .i64 n')) :
    Calls Tryd.prog 59 #[.slice (some ⟨b, 0, none⟩) 2 2] w fun e w' => e = .returned (.bool (r && r')) ∧ Below w.heap.size w w' := by
  have := mayBe_any b [(a, n), (a', n')] w (by simp) (pfx2 w b a n a' n' h0 h1 h2 h3) (World.block_lt_of_cell? w _ h0)
  simpa [hr, hr'] using this

set_option maxHeartbeats 400000 in
theorem Check_t (a n : Int) (w : World) (h : rightB a n = true) :
    Calls Tryd.prog 36 #[.agg #[.int .u32 a, .int .i64 n]] w fun e w' => e = .returned (.int .i64 0) ∧ Below w.heap.size w w' := by
  have H := Lib.hid h
  clear h
  go_enter Tryd.func36, Tryd.ntmps36
  go_wp2_with fail
  go_step3
  go_wp2_with (go_at_call 59; refine (mayBe1 _ a n _ true H.out ?_ ?_).mono ?_)
  · simp [go_sem]
  · simp [go_sem]
  rintro e w' ⟨rfl, hb⟩
  go_wp2
  rw [Exit.noGoto_ret]
  go_ret
  exact ⟨rfl, (((Below.refl _ _).alloc (Nat.le_refl _) _).alloc (by simp) _).trans (hb.mono (by simp; omega))⟩

set_option maxHeartbeats 400000 in
theorem Check_f (a n : Int) (w : World) (h : rightB a n = false) :
    Calls Tryd.prog 36 #[.agg #[.int .u32 a, .int .i64 n]] w fun e w' => e = .returned (.int .i64 2) ∧ Below w.heap.size w w' := by
  have H := Lib.hid h
  clear h
  go_enter Tryd.func36, Tryd.ntmps36
  go_wp2_with fail
  refine wp_scope_fwd 0 rfl ?_
  go_wp2_with (go_at_call 59; refine (mayBe1 _ a n _ false H.out ?_ ?_).mono ?_)
  · simp [go_sem]
  · simp [go_sem]
  rintro e w' ⟨rfl, hb⟩
  go_wp2
  go_step3
  refine ⟨rfl, ?_⟩
  go_wp2
  rw [Exit.noGoto_ret]
  go_ret
  exact ⟨rfl, (((Below.refl _ _).alloc (Nat.le_refl _) _).alloc (by simp) _).trans (hb.mono (by simp; omega))⟩


end Go.Proofs.YtbacahoihkpkpaaDoor
