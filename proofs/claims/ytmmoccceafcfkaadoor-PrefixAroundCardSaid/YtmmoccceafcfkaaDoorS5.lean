/- slices' order2, median, choosePivot over prefixes. (Printed by gen_s5.py.) -/
import Derived.Test.YtmmoccceafcfkaaDoorS2
import Derived.Deep.RegionWith
namespace Go.Proofs.YtmmoccceafcfkaaDoor
open Go.RowKit Go.Shelf Go.Sort

/-- a counter -/
structure CB (w : World) (c : Nat) (s : Nat) : Prop where
  c0 : w.cell? ⟨c, 0, none⟩ = some (.int .i64 s)
  f0 : w.frozen? ⟨c, 0, none⟩ = false
theorem CB.of_block {w w' : World} {c s : Nat} (h : CB w c s) (e : w'.heap[c]? = w.heap[c]?) : CB w' c s :=
  ⟨(World.cell?_of_block (w := w) (a := ⟨c, 0, none⟩) e).trans h.c0, by have := h.f0; unfold World.frozen? at *; simp only [e]; exact this⟩
theorem CB.lt {w : World} {c s : Nat} (h : CB w c s) : c < w.heap.size := World.block_lt_of_cell? w _ h.c0
theorem CB.below {w w' : World} {c s : Nat} (h : CB w c s) (hb : Below w.heap.size w w') : CB w' c s := h.of_block (hb.block c h.lt)
theorem CB.put {w : World} {c s : Nat} (h : CB w c s) (t : Nat) : CB (w.setCell ⟨c, 0, none⟩ (.int .i64 t)) c t :=
  ⟨World.cell?_setCell_same' _ _ _ (by rw [h.c0]; rfl), by rw [World.frozen?_setCell]; exact h.f0⟩

set_option maxRecDepth 100000 in
set_option maxHeartbeats 8000000 in
theorem order2_any (g cap a b c s : Nat) (d : Array Pf) (w : World) (hA : AR w g d) (hg : g < w.heap.size) (hc : CB w c s) (ha : a < d.size) (hb : b < d.size) (hs : s ≤ 1000) (hn : d.size ≤ 1000) :
    Calls Tryd.prog 138 #[.slice (some ⟨g, 0, none⟩) d.size cap, .int .i64 a, .int .i64 b, .pointer (some ⟨c, 0, none⟩), fv] w fun e w' =>
      ∃ x y t : Nat, e = .returned (.tuple #[.int .i64 x, .int .i64 y]) ∧ (x = a ∧ y = b ∨ x = b ∧ y = a) ∧ t ≤ s + 1 ∧ CB w' c t ∧ KB [c] w w' := by
  have HA := Lib.hid (SW.start hA hg)
  have HC := Lib.hid hc
  clear hA hc
  unfold fv
  go_enter Tryd.func138, Tryd.ntmps138
  have ip : (0 : Int) ≤ (b : Int) := by omega
  have iq : (b : Int) < (d.size : Int) := by omega
  have ir : ((b : Int)).toNat = b := by omega
  have iw : IntKind.i64.wrap ((b : Int)) = (b : Int) := by rw [IntKind.wrap_i64]; omega
  have kp : (0 : Int) ≤ (a : Int) := by omega
  have kq : (a : Int) < (d.size : Int) := by omega
  have kr : ((a : Int)).toNat = a := by omega
  have kw : IntKind.i64.wrap ((a : Int)) = (a : Int) := by rw [IntKind.wrap_i64]; omega
  have x0 := cell_regrown (HA.out.row.c0 hb)
  have x1 := cell_regrown (HA.out.row.c1 hb)
  obtain ⟨Qx, hx⟩ : ∃ Q, Q = d[b]! := ⟨_, rfl⟩
  rw [← hx] at x0 x1
  have Hx := Lib.hid hx
  clear hx
  obtain ⟨xa, xn⟩ := Qx
  simp only at x0 x1
  have y0 := cell_regrown (HA.out.row.c0 ha)
  have y1 := cell_regrown (HA.out.row.c1 ha)
  obtain ⟨Qy, hy⟩ : ∃ Q, Q = d[a]! := ⟨_, rfl⟩
  rw [← hy] at y0 y1
  have Hy := Lib.hid hy
  clear hy
  obtain ⟨ya, yn⟩ := Qy
  simp only at y0 y1
  by_cases hlv : ordI xa xn ya yn < 0
  · have hlt2 : decide (ordI xa xn ya yn < 0) = true := decide_eq_true hlv
    have HB := Lib.hid (fun (n : Nat) (os : Array Obj) => below_regrown w n os)
    go_upto_region 1 with fail
    refine wp_region_quiet_below (by kernel_rfl) (by kernel_rfl) ?_
    repeat (first | go_big_quiet_step (with_reducible exact ord_g _ _ _ _ _ _ _) | quiet_step (with_reducible exact ord_g _ _ _ _ _ _ _))
    refine wpQuiet_nil ?_
    intro _ hw'
    obtain ⟨⟨dq, osq⟩, hw''⟩ := hw'
    subst hw''
    have HT := Lib.hid (HA.out.reg dq osq)
    have HV := Lib.hid (HB.out dq osq)
    clear HB x0 x1 y0 y1 HA
    generalize grow (redrawn w dq) osq = V at *
    have c0 := (HC.out.below HV.out).c0
    have f0 := (HC.out.below HV.out).f0
    go_wp2_with fail
    go_ret2
    exact ⟨b, a, s + 1, rfl, .inr ⟨rfl, rfl⟩, by omega, by have := (HC.out.below HV.out).put (s + 1); simpa using this, (KB.of_below HV.out).trans (KB.setCell _ _ _ _ _ (by simp))⟩
  · have hlt2 : decide (ordI xa xn ya yn < 0) = false := decide_eq_false hlv
    have HB := Lib.hid (fun (n : Nat) (os : Array Obj) => below_regrown w n os)
    go_upto_region 1 with fail
    refine wp_region_quiet_below (by kernel_rfl) (by kernel_rfl) ?_
    repeat (first | go_big_quiet_step (with_reducible exact ord_g _ _ _ _ _ _ _) | quiet_step (with_reducible exact ord_g _ _ _ _ _ _ _))
    refine wpQuiet_nil ?_
    intro _ hw'
    obtain ⟨⟨dq, osq⟩, hw''⟩ := hw'
    subst hw''
    have HT := Lib.hid (HA.out.reg dq osq)
    have HV := Lib.hid (HB.out dq osq)
    clear HB x0 x1 y0 y1 HA
    generalize grow (redrawn w dq) osq = V at *
    go_wp2_with fail
    go_ret2
    exact ⟨a, b, rfl, .inl ⟨rfl, rfl⟩, s, by omega, HC.out.below HV.out, KB.of_below HV.out⟩

set_option maxRecDepth 100000 in
set_option maxHeartbeats 8000000 in
theorem median_any (g cap a b c k s : Nat) (d : Array Pf) (w : World) (hA : AR w g d) (hg : g < w.heap.size) (hk : CB w k s) (hkg : g ≠ k) (ha : a < d.size) (hb : b < d.size) (hc : c < d.size) (hs : s ≤ 100) (hn : d.size ≤ 1000) :
    Calls Tryd.prog 137 #[.slice (some ⟨g, 0, none⟩) d.size cap, .int .i64 a, .int .i64 b, .int .i64 c, .pointer (some ⟨k, 0, none⟩), fv] w fun e w' =>
      ∃ x t : Nat, e = .returned (.int .i64 x) ∧ (x = a ∨ x = b ∨ x = c) ∧ t ≤ s + 3 ∧ CB w' k t ∧ KB [k] w w' := by
  have HA := Lib.hid hA
  have HO := Lib.hid (fun (x y t : Nat) (W : World) (hW : KB [k] w W) (hC : CB W k t) (hx : x < d.size) (hy : y < d.size) (ht : t ≤ 1000) =>
    order2_any g cap x y k t d W (HA.out.kb hg hW (by simpa using hkg)) (Nat.lt_of_lt_of_le hg hW.size) hC hx hy ht hn)
  have HK := Lib.hid hk
  clear hA hk
  unfold fv at *
  go_enter Tryd.func137, Tryd.ntmps137
  go_wp2_with (go_at_call_of 138 (Value.int .i64 (b : Int)); (with_reducible refine (HO.out a b s w (KB.refl _ _) HK.out ha hb (by omega)).mono ?_); rintro e w1 ⟨x1, y1, t1, rfl, h1, ht1, hc1, hk1⟩)
  have hx1 : x1 < d.size ∧ y1 < d.size := by omega
  go_wp2_with (go_at_call_of 138 (Value.int .i64 (c : Int)); (with_reducible refine (HO.out y1 c t1 w1 hk1 hc1 hx1.2 hc (by omega)).mono ?_); rintro e w2 ⟨x2, y2, t2, rfl, h2, ht2, hc2, hk2⟩)
  have hx2 : x2 < d.size ∧ y2 < d.size := by omega
  go_wp2_with (go_at_call_of 138 (Value.int .i64 (x2 : Int)); (with_reducible refine (HO.out x1 x2 t2 w2 (hk1.trans hk2) hc2 hx1.1 hx2.1 (by omega)).mono ?_); rintro e w3 ⟨x3, y3, t3, rfl, h3, ht3, hc3, hk3⟩)
  go_ret
  exact ⟨y3, t3, rfl, by omega, by omega, hc3, (hk1.trans hk2).trans hk3⟩

set_option maxRecDepth 100000 in
set_option maxHeartbeats 8000000 in
theorem pivot_any (g cap a b : Nat) (d : Array Pf) (w : World) (hA : AR w g d) (hg : g < w.heap.size) (h8 : a + 8 ≤ b) (h50 : b < a + 50) (hb : b ≤ d.size) (hn : d.size ≤ 1000) :
    Calls Tryd.prog 124 #[.slice (some ⟨g, 0, none⟩) d.size cap, .int .i64 a, .int .i64 b, fv] w fun e w' =>
      ∃ (p : Nat) (h : Int), e = .returned (.tuple #[.int .i64 p, .int .i64 h]) ∧ a ≤ p ∧ p < b ∧ (h = 0 ∨ h = 1) ∧ Below w.heap.size w w' := by
  obtain ⟨n, hnn⟩ : ∃ n : Nat, b = a + n := ⟨b - a, by omega⟩
  subst hnn
  obtain ⟨I, hI⟩ : ∃ I : Nat, I = a + n / 4 * 1 := ⟨_, rfl⟩
  obtain ⟨J, hJ⟩ : ∃ J : Nat, J = a + n / 4 * 2 := ⟨_, rfl⟩
  obtain ⟨K, hK⟩ : ∃ K : Nat, K = a + n / 4 * 3 := ⟨_, rfl⟩
  have hg' : g < (w.alloc (.cells #[.int .i64 0] 3)).heap.size := by simp; omega
  have HM := Lib.hid (median_any g cap I J K w.heap.size 0 d (w.alloc (.cells #[.int .i64 0] 3)) (hA.alloc hg _) hg' ⟨by simp, by simp⟩ (by omega) (by omega) (by omega) (by omega) (by omega) hn)
  have eN : ((a + n : Nat) : Int) - (a : Int) = (n : Int) := by omega
  have eN2 : (a : Int) + (n : Int) - (a : Int) = (n : Int) := by omega
  have eI : (a : Int) + (n : Int) / 4 = (I : Int) := by omega
  have eJ : (a : Int) + (n : Int) / 4 * 2 = (J : Int) := by omega
  have eK : (a : Int) + (n : Int) / 4 * 3 = (K : Int) := by omega
  have g1 : (8 : Int) ≤ (n : Int) := by omega
  have g2 : ¬ (50 : Int) ≤ (n : Int) := by omega
  have bI : a ≤ I ∧ I < a + n := by omega
  have bJ : a ≤ J ∧ J < a + n := by omega
  have bK : a ≤ K ∧ K < a + n := by omega
  clear hI hJ hK hA hg'
  unfold fv at *
  go_enter Tryd.func124, Tryd.ntmps124
  go_wp2_with (go_at_call 137; (with_reducible refine HM.out.mono ?_); rintro e w1 ⟨x1, t1, rfl, h1, ht1, hc1, hk1⟩; have c0 := hc1.c0; have HK1 := Lib.hid hk1; clear hk1 hc1)
  all_goals
    have HB := Lib.hid (((Below.refl w.heap.size w).alloc (Nat.le_refl _) _).trans (HK1.out.below (n := w.heap.size) (by simp) (by simp)))
    go_ret2
    refine ⟨x1, _, rfl, by omega, by omega, by first | exact .inl rfl | exact .inr rfl | (exfalso; omega), HB.out⟩
end Go.Proofs.YtmmoccceafcfkaaDoor
