/- Contracts: prefix.Stands, cmp.Compare, cmp.Or, prefix.Order. -/
import Derived.Test.YtmmoccceafcfkaaDoorA4
namespace Go.Proofs.YtmmoccceafcfkaaDoor
open Go.RowKit
open Go.Sort (grow)

structure RelsAt (w : World) : Prop where
  c0 : w.cell? ⟨0, 0, none⟩ = some (.int .i64 4)
  c1 : w.cell? ⟨0, 1, none⟩ = some (.int .i64 2)
  c2 : w.cell? ⟨0, 2, none⟩ = some (.int .i64 3)
  c3 : w.cell? ⟨0, 3, none⟩ = some (.int .i64 1)
theorem RelsAt.below {w w' : World} (h : RelsAt w) (hb : Below w.heap.size w w') : RelsAt w' := by
  have h0 := World.block_lt_of_cell? w _ h.c0
  exact ⟨(hb.cell (p := ⟨0, 0, none⟩) h0).trans h.c0, (hb.cell (p := ⟨0, 1, none⟩) h0).trans h.c1, (hb.cell (p := ⟨0, 2, none⟩) h0).trans h.c2, (hb.cell (p := ⟨0, 3, none⟩) h0).trans h.c3⟩

theorem holds_b (pa pn qa qn : Int) (w : World) (d : Nat) (os : Array Obj) (r : Int) (h0 : 0 ≤ pn) (h1 : pn ≤ 32) (hr : b2i (holdsB pa pn qa qn) = r) :
    Calls Tryd.prog 60 #[.agg #[.int .u32 pa, .int .i64 pn], .agg #[.int .u32 qa, .int .i64 qn]] (grow (redrawn w d) os) fun e w'' => e = .returned (.int .i64 r) ∧ ∃ p : Regrown, w'' = grow (redrawn w p.d) p.os := by
  subst hr
  exact Calls.regrown_of (holds_any pa pn qa qn _ h0 h1)

theorem holds_b1 (pa pn qa qn : Int) (w : World) (d : Nat) (os : Array Obj) (h0 : 0 ≤ pn) (h1 : pn ≤ 32) (hr : holdsB pa pn qa qn = true) :
    Calls Tryd.prog 60 #[.agg #[.int .u32 pa, .int .i64 pn], .agg #[.int .u32 qa, .int .i64 qn]] (grow (redrawn w d) os) fun e w'' => e = .returned (.int .i64 1) ∧ ∃ p : Regrown, w'' = grow (redrawn w p.d) p.os :=
  holds_b pa pn qa qn w d os 1 h0 h1 (by rw [hr]; rfl)
theorem holds_b0 (pa pn qa qn : Int) (w : World) (d : Nat) (os : Array Obj) (h0 : 0 ≤ pn) (h1 : pn ≤ 32) (hr : holdsB pa pn qa qn = false) :
    Calls Tryd.prog 60 #[.agg #[.int .u32 pa, .int .i64 pn], .agg #[.int .u32 qa, .int .i64 qn]] (grow (redrawn w d) os) fun e w'' => e = .returned (.int .i64 0) ∧ ∃ p : Regrown, w'' = grow (redrawn w p.d) p.os :=
  holds_b pa pn qa qn w d os 0 h0 h1 (by rw [hr]; rfl)

def relOf (x y : Bool) : Int := if x then (if y then 1 else 3) else (if y then 2 else 4)

set_option maxRecDepth 100000 in
set_option maxHeartbeats 400000 in
theorem Stands_t (pa pn qa qn : Int) (w : World) (hw : RelsAt w) (hp : rightB pa pn = true) (hq : rightB qa qn = true) :
    Calls Tryd.prog 27 #[.agg #[.int .u32 pa, .int .i64 pn], .agg #[.int .u32 qa, .int .i64 qn]] w fun e w' => e = .returned (.tuple #[.int .i64 (relOf (holdsB pa pn qa qn) (holdsB qa qn pa pn)), .int .i64 0]) ∧ Below w.heap.size w w' := by
  have Hp := Lib.hid hp
  have Hq := Lib.hid hq
  have lp := rightB_len hp
  have lq := rightB_len hq
  clear hp hq
  generalize hx : holdsB pa pn qa qn = x
  generalize hy : holdsB qa qn pa pn = y
  have Hx := Lib.hid hx
  have Hy := Lib.hid hy
  clear hx hy
  have Hw := Lib.hid hw
  clear hw
  go_enter Tryd.func27, Tryd.ntmps27
  go_wp2_with fail
  go_step3
  go_wp2_with fail
  refine (mayBe2 _ pa pn qa qn _ true true Hp.out Hq.out ?_ ?_ ?_ ?_).mono ?_
  · simp [go_sem]
  · simp [go_sem]
  · simp [go_sem]
  · simp [go_sem]
  rintro e w1 ⟨rfl, hb⟩
  have c0 := (hb.cell (p := ⟨w.heap.size, 0, none⟩) (by simp; omega)).trans (show _ = some (.int .u32 pa) by simp [go_sem])
  have c1 := (hb.cell (p := ⟨w.heap.size, 1, none⟩) (by simp; omega)).trans (show _ = some (.int .i64 pn) by simp [go_sem])
  have c2 := (hb.cell (p := ⟨w.heap.size + 1, 0, none⟩) (by simp)).trans (show _ = some (.int .u32 qa) by simp [go_sem])
  have c3 := (hb.cell (p := ⟨w.heap.size + 1, 1, none⟩) (by simp)).trans (show _ = some (.int .i64 qn) by simp [go_sem])
  have hB : Below w.heap.size w w1 := bthen ((((Below.refl _ _).alloc (Nat.le_refl _) _).alloc (by simp) _).alloc (by simp; omega) _) hb
  have hr := Hw.out.below hB
  have HB := Lib.hid hB
  clear hb hB
  have d0 := cell_regrown c0
  have d1 := cell_regrown c1
  have d2 := cell_regrown c2
  have d3 := cell_regrown c3
  have r0 := cell_regrown hr.c0
  have r1 := cell_regrown hr.c1
  have r2 := cell_regrown hr.c2
  have r3 := cell_regrown hr.c3
  clear c0 c1 c2 c3 hr
  go_wp2_with fail
  cases x <;> cases y
  all_goals
    refine wp_region_quiet_below (by kernel_rfl) (by kernel_rfl) ?_
    quiet_step (fail)
    quiet_step (fail)
    quiet_step (first | exact holds_b1 pa pn qa qn _ _ _ lp.1 lp.2 Hx.out | exact holds_b0 pa pn qa qn _ _ _ lp.1 lp.2 Hx.out)
    quiet_step (fail)
    quiet_step (fail)
    quiet_step (first | exact holds_b1 qa qn pa pn _ _ _ lq.1 lq.2 Hy.out | exact holds_b0 qa qn pa pn _ _ _ lq.1 lq.2 Hy.out)
    repeat (quiet_step (fail))
    refine wpQuiet_nil ?_
    intro _ hw'
    obtain ⟨⟨dq, osq⟩, hw''⟩ := hw'
    subst hw''
    go_wp2_with fail
    rw [Exit.noGoto_ret]
    go_ret2
    exact ⟨rfl, bthen HB.out (below_regrown _ dq osq)⟩

set_option maxRecDepth 100000 in
set_option maxHeartbeats 400000 in
theorem Stands_f (pa pn qa qn : Int) (w : World) (h : (rightB pa pn && rightB qa qn) = false) :
    Calls Tryd.prog 27 #[.agg #[.int .u32 pa, .int .i64 pn], .agg #[.int .u32 qa, .int .i64 qn]] w fun e w' => e = .returned (.tuple #[.int .i64 0, .int .i64 2]) ∧ Below w.heap.size w w' := by
  have H := Lib.hid h
  clear h
  go_enter Tryd.func27, Tryd.ntmps27
  go_wp2_with fail
  refine wp_scope_fwd 0 rfl ?_
  go_wp2_with fail
  refine (mayBe2 _ pa pn qa qn _ _ _ rfl rfl ?_ ?_ ?_ ?_).mono ?_
  · simp [go_sem]
  · simp [go_sem]
  · simp [go_sem]
  · simp [go_sem]
  rw [H.out]
  rintro e w1 ⟨rfl, hb⟩
  have HB := Lib.hid hb
  clear hb
  go_wp2_with fail
  go_step3
  refine ⟨rfl, ?_⟩
  go_wp2_with fail
  rw [Exit.noGoto_ret]
  go_ret2
  exact ⟨rfl, bthen ((((Below.refl _ _).alloc (Nat.le_refl _) _).alloc (by simp) _).alloc (by simp; omega) _) HB.out⟩

def cmpI (x y : Int) : Int := if x < y then -1 else if y < x then 1 else 0

set_option maxHeartbeats 400000 in
theorem CompareA (x y : Int) (w : World) :
    Calls Tryd.prog 62 #[.int .u32 x, .int .u32 y] w fun e w' => e = .returned (.int .i64 (cmpI x y)) ∧ w = w' := by
  by_cases c1 : x < y
  · have t1 : decide (x < y) = true := by simp; omega
    go_enter Tryd.func62, Tryd.ntmps62
    go_wp2
    go_ret
    exact ⟨ret_int (by simp [cmpI, c1]), rfl⟩
  · have t1 : decide (x < y) = false := by simp; omega
    by_cases c2 : y < x
    · have t2 : decide (y < x) = true := by simp; omega
      go_enter Tryd.func62, Tryd.ntmps62
      go_wp2
      go_ret
      exact ⟨ret_int (by unfold cmpI; rw [if_neg (by omega), if_pos c2]), rfl⟩
    · have t2 : decide (y < x) = false := by simp; omega
      go_enter Tryd.func62, Tryd.ntmps62
      go_wp2
      go_ret
      exact ⟨ret_int (by unfold cmpI; rw [if_neg (by omega), if_neg (by omega)]), rfl⟩
set_option maxHeartbeats 400000 in
theorem CompareI (x y : Int) (w : World) :
    Calls Tryd.prog 63 #[.int .i64 x, .int .i64 y] w fun e w' => e = .returned (.int .i64 (cmpI x y)) ∧ w = w' := by
  by_cases c1 : x < y
  · have t1 : decide (x < y) = true := by simp; omega
    go_enter Tryd.func63, Tryd.ntmps63
    go_wp2
    go_ret
    exact ⟨ret_int (by simp [cmpI, c1]), rfl⟩
  · have t1 : decide (x < y) = false := by simp; omega
    by_cases c2 : y < x
    · have t2 : decide (y < x) = true := by simp; omega
      go_enter Tryd.func63, Tryd.ntmps63
      go_wp2
      go_ret
      exact ⟨ret_int (by unfold cmpI; rw [if_neg (by omega), if_pos c2]), rfl⟩
    · have t2 : decide (y < x) = false := by simp; omega
      go_enter Tryd.func63, Tryd.ntmps63
      go_wp2
      go_ret
      exact ⟨ret_int (by unfold cmpI; rw [if_neg (by omega), if_neg (by omega)]), rfl⟩

def orI (x y : Int) : Int := if x = 0 then y else x
set_option maxHeartbeats 400000 in
theorem Or2 (b : Nat) (x y : Int) (w : World) (c0 : w.cell? ⟨b, 0, none⟩ = some (.int .i64 x)) (c1 : w.cell? ⟨b, 1, none⟩ = some (.int .i64 y)) :
    Calls Tryd.prog 61 #[.slice (some ⟨b, 0, none⟩) 2 2] w fun e w' => e = .returned (.int .i64 (orI x y)) ∧ w = w' := by
  by_cases hx : x = 0
  · subst hx
    by_cases hy : y = 0
    · subst hy
      go_enter Tryd.func61, Tryd.ntmps61
      go_wp2
      refine wp_loop_rounds 3 ?_
      rw [rounds_succ]
      go_wp2
      rw [rounds_succ]
      go_wp2
      rw [rounds_succ]
      go_wp2
      go_ret
      exact ⟨rfl, rfl⟩
    · have t2 : (y != 0) = true := by simpa using hy
      clear hy
      go_enter Tryd.func61, Tryd.ntmps61
      go_wp2
      refine wp_loop_rounds 3 ?_
      rw [rounds_succ]
      go_wp2
      rw [rounds_succ]
      go_wp2
      go_ret
      exact ⟨rfl, rfl⟩
  · have t1 : (x != 0) = true := by simpa using hx
    have H := Lib.hid hx
    clear hx
    go_enter Tryd.func61, Tryd.ntmps61
    go_wp2
    refine wp_loop_rounds 3 ?_
    rw [rounds_succ]
    go_wp2
    go_ret
    exact ⟨ret_int (by unfold orI; rw [if_neg H.out]), rfl⟩

def ordI (pa pn qa qn : Int) : Int := orI (cmpI pa qa) (cmpI pn qn)
set_option maxRecDepth 100000 in
set_option maxHeartbeats 400000 in
theorem Order_any (pa pn qa qn : Int) (w : World) :
    Calls Tryd.prog 29 #[.agg #[.int .u32 pa, .int .i64 pn], .agg #[.int .u32 qa, .int .i64 qn]] w fun e w' => e = .returned (.int .i64 (ordI pa pn qa qn)) ∧ Below w.heap.size w w' := by
  go_enter Tryd.func29, Tryd.ntmps29
  go_wp2_with fail
  go_region_held3 (fun w' => w'.cell? ⟨w.heap.size, 0, none⟩ = some (.int .u32 pa) ∧ w'.cell? ⟨w.heap.size, 1, none⟩ = some (.int .i64 pn) ∧ w'.cell? ⟨w.heap.size + 1, 0, none⟩ = some (.int .u32 qa) ∧ w'.cell? ⟨w.heap.size + 1, 1, none⟩ = some (.int .i64 qn))
    (go_keep)
    (first | (go_at_call 62; refine (CompareA _ _ _).mono ?_; rintro e w' ⟨rfl, rfl⟩) | (go_at_call 63; refine (CompareI _ _ _).mono ?_; rintro e w' ⟨rfl, rfl⟩) | (go_at_call 61; refine (Or2 _ (cmpI pa qa) (cmpI pn qn) _ (by simp [go_sem]) (by simp [go_sem])).mono ?_; rintro e w' ⟨rfl, rfl⟩))
  go_wp2
  go_ret
  exact ⟨rfl, ((((Below.refl _ _).alloc (Nat.le_refl _) _).alloc (by simp) _).alloc (by simp; omega) _).drew⟩
end Go.Proofs.YtmmoccceafcfkaaDoor
