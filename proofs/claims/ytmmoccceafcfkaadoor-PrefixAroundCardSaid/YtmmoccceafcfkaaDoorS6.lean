/- slices.partialInsertionSortCmpFunc over fewer than 50 prefixes. (Printed by gen_s6.py.) -/
import Derived.Test.YtmmoccceafcfkaaDoorS2
import Derived.Sort.LotA
namespace Go.Proofs.YtmmoccceafcfkaaDoor
open Go.RowKit Go.Shelf Go.Sort

/-- what partialInsertionSort tells -/
def PartPost (a b : Nat) (d : Array Pf) (w : World) (e : Ending) (w' : World) : Prop :=
  ∃ r : Bool, e = .returned (.bool r) ∧ (r = true → SortedIn pltB a b d) ∧ Go.RowKit.Below w.heap.size w w'
set_option maxRecDepth 100000 in
set_option maxHeartbeats 8000000 in
theorem part_any (g cap a b : Nat) (d : Array Pf) (w : World) (hA : AR w g d) (hg : g < w.heap.size) (hab : a < b) (h50 : b < a + 50) (hb : b ≤ d.size) (hn : d.size ≤ 1000) :
    Calls Tryd.prog 126 #[.slice (some ⟨g, 0, none⟩) d.size cap, .int .i64 a, .int .i64 b, fv] w fun e w' =>
  PartPost a b d w e w' := by
  have HA := Lib.hid (SW.start hA hg)
  clear hA
  have g2 : (b : Int) - (a : Int) < 50 := by omega
  unfold fv
  go_enter Tryd.func126, Tryd.ntmps126
  go_wp2_with fail
  refine wp_loop_rounds 1 ?_
  rw [rounds_succ]
  go_wp2_with fail
  go_loopg [9] (b - (a + 1)) (fun m vi wr => ∃ (i : Nat), vi = .int .i64 i ∧ a < i ∧ i ≤ b ∧ m = b - i ∧ Hid (SW w g d wr) ∧ Hid (Go.RowKit.Below w.heap.size w wr) ∧ Hid (SortedIn pltB a i d))
  case atStart => exact ⟨a + 1, by go_num, by omega, by omega, rfl, HA, Go.RowKit.Below.refl _ _, fun i j h1 h2 h3 => by omega⟩
  case round =>
    obtain ⟨i, rfl, hai, hib, hm, HS, HR, HO⟩ := hrel
    obtain ⟨ip, rfl⟩ : ∃ ip, i = ip + 1 := ⟨i - 1, by omega⟩
    by_cases hlt : ip + 1 < b
    · have hltz : (ip : Int) + 1 < (b : Int) := by omega
      have hltd : decide ((ip : Int) + 1 < (b : Int)) = true := decide_eq_true hltz
      have l1 : ip + 1 < d.size := by omega
      have l0 : ip < d.size := by omega
      have up : (0 : Int) ≤ (ip : Int) + 1 := by omega
      have uq : (ip : Int) + 1 < (d.size : Int) := by omega
      have ur : ((ip : Int) + 1).toNat = ip + 1 := by omega
      have uw : IntKind.i64.wrap ((ip : Int) + 1) = (ip : Int) + 1 := by rw [IntKind.wrap_i64]; omega
      have kp : (0 : Int) ≤ (ip : Int) := by omega
      have kq : (ip : Int) < (d.size : Int) := by omega
      have kr : ((ip : Int)).toNat = ip := by omega
      have kw : IntKind.i64.wrap ((ip : Int)) = (ip : Int) := by rw [IntKind.wrap_i64]; omega
      have x0 := cell_regrown (HS.out.row.c0 l1)
      have x1 := cell_regrown (HS.out.row.c1 l1)
      obtain ⟨Qx, hx⟩ : ∃ Q, Q = d[ip + 1]! := ⟨_, rfl⟩
      rw [← hx] at x0 x1
      have Hx := Lib.hid hx
      clear hx
      obtain ⟨xa, xn⟩ := Qx
      simp only at x0 x1
      have y0 := cell_regrown (HS.out.row.c0 l0)
      have y1 := cell_regrown (HS.out.row.c1 l0)
      obtain ⟨Qy, hy⟩ : ∃ Q, Q = d[ip]! := ⟨_, rfl⟩
      rw [← hy] at y0 y1
      have Hy := Lib.hid hy
      clear hy
      obtain ⟨ya, yn⟩ := Qy
      simp only at y0 y1
      by_cases hlv : ordI xa xn ya yn < 0
      · have hlt2 : decide (ordI xa xn ya yn < 0) = true := decide_eq_true hlv
        have HB := Lib.hid (fun (n : Nat) (os : Array Obj) => (HR.out.trans ((below_regrown wr n os).mono HR.out.size)))
        go_upto_region 5 with fail
        refine wp_region_quiet_below (by kernel_rfl) (by kernel_rfl) ?_
        repeat (first | go_big_quiet_step (with_reducible exact ord_g _ _ _ _ _ _ _) | quiet_step (with_reducible exact ord_g _ _ _ _ _ _ _))
        refine wpQuiet_nil ?_
        intro _ hw'
        obtain ⟨⟨dq, osq⟩, hw''⟩ := hw'
        subst hw''
        have HT := Lib.hid (HS.out.reg dq osq)
        have HV := Lib.hid (HB.out dq osq)
        clear HB x0 x1 y0 y1 HS
        generalize grow (redrawn wr dq) osq = V at *
        have t1 : ((ip : Int) + 1 == (b : Int)) = false := by simp; omega
        go_wp2_with fail
        go_ret
        exact ⟨false, rfl, fun h => (by cases h), HV.out⟩
      · have hlt2 : decide (ordI xa xn ya yn < 0) = false := decide_eq_false hlv
        have HB := Lib.hid (fun (n : Nat) (os : Array Obj) => (HR.out.trans ((below_regrown wr n os).mono HR.out.size)))
        go_upto_region 5 with fail
        refine wp_region_quiet_below (by kernel_rfl) (by kernel_rfl) ?_
        repeat (first | go_big_quiet_step (with_reducible exact ord_g _ _ _ _ _ _ _) | quiet_step (with_reducible exact ord_g _ _ _ _ _ _ _))
        refine wpQuiet_nil ?_
        intro _ hw'
        obtain ⟨⟨dq, osq⟩, hw''⟩ := hw'
        subst hw''
        have HT := Lib.hid (HS.out.reg dq osq)
        have HV := Lib.hid (HB.out dq osq)
        clear HB x0 x1 y0 y1 HS
        generalize grow (redrawn wr dq) osq = V at *
        go_wp2_with fail
        go_roundg (b - (ip + 2))
        case measure => omega
        case rel =>
          refine ⟨ip + 2, by go_num, by omega, by omega, rfl, HT, HV, ?_⟩
          exact HO.out.snoc p_swo (by simp only [Nat.add_sub_cancel]; rw [← Hx.out, ← Hy.out]; exact hlt2)
    · have hltz : ¬ (ip : Int) + 1 < (b : Int) := by omega
      have hltd : decide ((ip : Int) + 1 < (b : Int)) = false := decide_eq_false hltz
      have t1 : ((ip : Int) + 1 == (b : Int)) = true := by simp; omega
      have HB := Lib.hid (fun (n : Nat) (os : Array Obj) => (HR.out.trans ((below_regrown wr n os).mono HR.out.size)))
      go_upto_region 5 with fail
      refine wp_region_quiet_below (by kernel_rfl) (by kernel_rfl) ?_
      repeat (first | go_big_quiet_step (fail) | quiet_step (fail))
      refine wpQuiet_nil ?_
      intro _ hw'
      obtain ⟨⟨dq, osq⟩, hw''⟩ := hw'
      subst hw''
      go_wp2_with fail
      go_ret
      exact ⟨true, rfl, fun _ => by have e : b = ip + 1 := by omega
                                    rw [e]; exact HO.out, HB.out dq osq⟩
end Go.Proofs.YtmmoccceafcfkaaDoor
