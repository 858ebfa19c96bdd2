/- slices.siftDownCmpFunc over prefixes. (Printed by gen_s3.py.) -/
import Derived.Test.YtmmoccceafcfkaaDoorS3a
namespace Go.Proofs.YtmmoccceafcfkaaDoor
open Go.RowKit Go.Shelf Go.Sort

set_option maxRecDepth 100000 in
set_option maxHeartbeats 8000000 in
theorem sift_any (g cap lo hi first : Nat) (d : Array Pf) (w : World) (hA : SW w g d w) (hf : first + hi ≤ d.size) (hlo : lo ≤ 1000) (hn : d.size ≤ 1000) :
    Calls Tryd.prog 133 #[.slice (some ⟨g, 0, none⟩) d.size cap, .int .i64 lo, .int .i64 hi, .int .i64 first, fv] w fun e w' => e = .returned (.tuple #[]) ∧ SW w g (siftDown pltB hi first lo d) w' := by
  have HA := Lib.hid hA
  clear hA
  unfold fv
  go_enter Tryd.func133, Tryd.ntmps133
  go_wp2_with fail
  go_loopg [10] (hi - lo) (fun m vi wr => ∃ (r : Nat) (dk : Array Pf), vi = .int .i64 r ∧ r ≤ 1000 ∧ m = hi - r ∧ dk.size = d.size ∧ Hid (SW w g dk wr) ∧ Hid (siftDown pltB hi first r dk = siftDown pltB hi first lo d))
  case atStart => exact ⟨lo, d, rfl, by omega, rfl, rfl, HA, rfl⟩
  case round =>
    obtain ⟨r, dk, rfl, hr, hm, hsk, HS, HO⟩ := hrel
    obtain ⟨c, hc⟩ : ∃ c : Nat, c = 2 * r + 1 := ⟨_, rfl⟩
    have cw : IntKind.i64.wrap (2 * (r : Int) + 1) = 2 * (r : Int) + 1 := by rw [IntKind.wrap_i64]; omega
    have cw2 : IntKind.i64.wrap (2 * (r : Int) + 1 + 1) = 2 * (r : Int) + 1 + 1 := by rw [IntKind.wrap_i64]; omega
    by_cases h1 : c < hi
    · have h1z : ¬ (hi : Int) ≤ 2 * (r : Int) + 1 := by omega
      have lF : first + (2 * r + 1) < dk.size := by omega
      have ffp : (0 : Int) ≤ (first : Int) + (2 * (r : Int) + 1) := by omega
      have ffq : (first : Int) + (2 * (r : Int) + 1) < (d.size : Int) := by omega
      have ffr : ((first : Int) + (2 * (r : Int) + 1)).toNat = first + (2 * r + 1) := by omega
      have ffw : IntKind.i64.wrap ((first : Int) + (2 * (r : Int) + 1)) = (first : Int) + (2 * (r : Int) + 1) := by rw [IntKind.wrap_i64]; omega
      by_cases h2 : c + 1 < hi
      · have h2z : 2 * (r : Int) + 1 + 1 < (hi : Int) := by omega
        have lG : first + (2 * r + 1) + 1 < dk.size := by omega
        have ggp : (0 : Int) ≤ (first : Int) + (2 * (r : Int) + 1) + 1 := by omega
        have ggq : (first : Int) + (2 * (r : Int) + 1) + 1 < (d.size : Int) := by omega
        have ggr : ((first : Int) + (2 * (r : Int) + 1) + 1).toNat = first + (2 * r + 1) + 1 := by omega
        have ggw : IntKind.i64.wrap ((first : Int) + (2 * (r : Int) + 1) + 1) = (first : Int) + (2 * (r : Int) + 1) + 1 := by rw [IntKind.wrap_i64]; omega
        have x0 := cell_regrown (HS.out.row.c0 lF)
        have x1 := cell_regrown (HS.out.row.c1 lF)
        obtain ⟨Qx, hx⟩ : ∃ Q, Q = dk[first + (2 * r + 1)]! := ⟨_, rfl⟩
        rw [← hx] at x0 x1
        have Hx := Lib.hid hx
        clear hx
        obtain ⟨xa, xn⟩ := Qx
        simp only at x0 x1
        have y0 := cell_regrown (HS.out.row.c0 lG)
        have y1 := cell_regrown (HS.out.row.c1 lG)
        obtain ⟨Qy, hy⟩ : ∃ Q, Q = dk[first + (2 * r + 1) + 1]! := ⟨_, rfl⟩
        rw [← hy] at y0 y1
        have Hy := Lib.hid hy
        clear hy
        obtain ⟨ya, yn⟩ := Qy
        simp only at y0 y1
        by_cases hlv : ordI xa xn ya yn < 0
        · have hlt2 : decide (ordI xa xn ya yn < 0) = true := decide_eq_true hlv
          have HC := Lib.hid (show (decide (2 * r + 1 + 1 < hi) && pltB dk[first + (2 * r + 1)]! dk[first + (2 * r + 1) + 1]!) = true by
            rw [decide_eq_true (by omega), Bool.true_and, ← Hx.out, ← Hy.out]; exact hlt2)
          go_upto_region 3 with fail
          refine wp_region_quiet_below (by kernel_rfl) (by kernel_rfl) ?_
          repeat (first | go_big_quiet_step (with_reducible exact ord_g _ _ _ _ _ _ _) | quiet_step (with_reducible exact ord_g _ _ _ _ _ _ _))
          refine wpQuiet_nil ?_
          intro _ hw'
          obtain ⟨⟨dq, osq⟩, hw''⟩ := hw'
          subst hw''
          have HT := Lib.hid (HS.out.reg dq osq)
          clear x0 x1 y0 y1 HS
          generalize grow (redrawn wr dq) osq = V at *
          clear Hx
          clear ffp ffq ffr ffw ggp ggq ggr ggw
          have lH : first + (2 * r + 1 + 1) < dk.size := by omega
          have hhp : (0 : Int) ≤ (first : Int) + (2 * (r : Int) + 1 + 1) := by omega
          have hhq : (first : Int) + (2 * (r : Int) + 1 + 1) < (d.size : Int) := by omega
          have hhr : ((first : Int) + (2 * (r : Int) + 1 + 1)).toNat = first + (2 * r + 1 + 1) := by omega
          have hhw : IntKind.i64.wrap ((first : Int) + (2 * (r : Int) + 1 + 1)) = (first : Int) + (2 * (r : Int) + 1 + 1) := by rw [IntKind.wrap_i64]; omega
          have lR : first + r < dk.size := by omega
          have rrp : (0 : Int) ≤ (first : Int) + (r : Int) := by omega
          have rrq : (first : Int) + (r : Int) < (d.size : Int) := by omega
          have rrr : ((first : Int) + (r : Int)).toNat = first + r := by omega
          have rrw : IntKind.i64.wrap ((first : Int) + (r : Int)) = (first : Int) + (r : Int) := by rw [IntKind.wrap_i64]; omega
          have r0 := cell_regrown (HT.out.row.c0 lR)
          have r1 := cell_regrown (HT.out.row.c1 lR)
          obtain ⟨Qr, hr⟩ : ∃ Q, Q = dk[first + r]! := ⟨_, rfl⟩
          rw [← hr] at r0 r1
          have Hr := Lib.hid hr
          clear hr
          obtain ⟨ra, rn⟩ := Qr
          simp only at r0 r1
          have z0 := cell_regrown (HT.out.row.c0 lH)
          have z1 := cell_regrown (HT.out.row.c1 lH)
          obtain ⟨Qz, hz⟩ : ∃ Q, Q = dk[first + (2 * r + 1 + 1)]! := ⟨_, rfl⟩
          rw [← hz] at z0 z1
          have Hz := Lib.hid hz
          clear hz
          obtain ⟨za, zn⟩ := Qz
          simp only at z0 z1
          by_cases hlw : ordI ra rn za zn < 0
          · have hlw2 : decide (ordI ra rn za zn < 0) = true := decide_eq_true hlw
            go_upto_region 5 with fail
            refine wp_region_quiet_below (by kernel_rfl) (by kernel_rfl) ?_
            repeat (first | go_big_quiet_step (with_reducible exact ord_g _ _ _ _ _ _ _) | quiet_step (with_reducible exact ord_g _ _ _ _ _ _ _))
            refine wpQuiet_nil ?_
            intro _ hw'
            obtain ⟨⟨dq, osq⟩, hw''⟩ := hw'
            subst hw''
            have HU := Lib.hid (HT.out.reg dq osq)
            clear r0 r1 z0 z1 HT
            generalize grow (redrawn V dq) osq = V2 at *
            have r0 := HU.out.row.c0 lR
            have r1 := HU.out.row.c1 lR
            have rf := HU.out.row.f0 lR
            have rg := HU.out.row.f1 lR
            have z0 := HU.out.row.c0 lH
            have z1 := HU.out.row.c1 lH
            have zf := HU.out.row.f0 lH
            have zg := HU.out.row.f1 lH
            have HX := Lib.hid ((HU.out.swap lR lH).drew)
            rw [← Hr.out] at r0 r1 HX
            rw [← Hz.out] at z0 z1 HX
            simp only at r0 r1 z0 z1
            go_upto_region 6 with fail
            go_region
            go_wp2_with fail
            go_roundg (hi - (c + 1))
            case measure => omega
            case rel =>
              refine ⟨c + 1, swp dk (first + r) (first + (2 * r + 1 + 1)), by first | rfl | go_num, by omega, rfl, by rw [size_swp]; exact hsk, HX, ?_⟩
              show _ = _
              rw [← HO.out, sift_right (by omega) HC.out (by rw [show first + (2 * r + 2) = first + (2 * r + 1 + 1) by omega, ← Hr.out, ← Hz.out]; exact hlw2), show first + (2 * r + 2) = first + (2 * r + 1 + 1) by omega, show 2 * r + 2 = c + 1 by omega]
          · have hlw2 : decide (ordI ra rn za zn < 0) = false := decide_eq_false hlw
            go_upto_region 5 with fail
            refine wp_region_quiet_below (by kernel_rfl) (by kernel_rfl) ?_
            repeat (first | go_big_quiet_step (with_reducible exact ord_g _ _ _ _ _ _ _) | quiet_step (with_reducible exact ord_g _ _ _ _ _ _ _))
            refine wpQuiet_nil ?_
            intro _ hw'
            obtain ⟨⟨dq, osq⟩, hw''⟩ := hw'
            subst hw''
            have HU := Lib.hid (HT.out.reg dq osq)
            clear r0 r1 z0 z1 HT
            generalize grow (redrawn V dq) osq = V2 at *
            go_wp2_with fail
            (try simp only [Exit.inBlock, Exit.then])
            refine bodyPost_ret (results_none rfl _ _ _) rfl ?_
            refine ⟨rfl, ?_⟩
            have h := HU.out
            rw [← HO.out, sift_right_end (by omega) HC.out (by rw [show first + (2 * r + 2) = first + (2 * r + 1 + 1) by omega, ← Hr.out, ← Hz.out]; exact hlw2)]
            exact h
        · have hlt2 : decide (ordI xa xn ya yn < 0) = false := decide_eq_false hlv
          have HC := Lib.hid (show (decide (2 * r + 1 + 1 < hi) && pltB dk[first + (2 * r + 1)]! dk[first + (2 * r + 1) + 1]!) = false by
            rw [decide_eq_true (by omega), Bool.true_and, ← Hx.out, ← Hy.out]; exact hlt2)
          go_upto_region 3 with fail
          refine wp_region_quiet_below (by kernel_rfl) (by kernel_rfl) ?_
          repeat (first | go_big_quiet_step (with_reducible exact ord_g _ _ _ _ _ _ _) | quiet_step (with_reducible exact ord_g _ _ _ _ _ _ _))
          refine wpQuiet_nil ?_
          intro _ hw'
          obtain ⟨⟨dq, osq⟩, hw''⟩ := hw'
          subst hw''
          have HT := Lib.hid (HS.out.reg dq osq)
          clear x0 x1 y0 y1 HS
          generalize grow (redrawn wr dq) osq = V at *
          clear Hy
          clear ggp ggq ggr ggw
          have lR : first + r < dk.size := by omega
          have rrp : (0 : Int) ≤ (first : Int) + (r : Int) := by omega
          have rrq : (first : Int) + (r : Int) < (d.size : Int) := by omega
          have rrr : ((first : Int) + (r : Int)).toNat = first + r := by omega
          have rrw : IntKind.i64.wrap ((first : Int) + (r : Int)) = (first : Int) + (r : Int) := by rw [IntKind.wrap_i64]; omega
          have r0 := cell_regrown (HT.out.row.c0 lR)
          have r1 := cell_regrown (HT.out.row.c1 lR)
          obtain ⟨Qr, hr⟩ : ∃ Q, Q = dk[first + r]! := ⟨_, rfl⟩
          rw [← hr] at r0 r1
          have Hr := Lib.hid hr
          clear hr
          obtain ⟨ra, rn⟩ := Qr
          simp only at r0 r1
          have z0 := cell_regrown (HT.out.row.c0 lF)
          have z1 := cell_regrown (HT.out.row.c1 lF)
          obtain ⟨Qz, hz⟩ : ∃ Q, Q = dk[first + (2 * r + 1)]! := ⟨_, rfl⟩
          rw [← hz] at z0 z1
          have Hz := Lib.hid hz
          clear hz
          obtain ⟨za, zn⟩ := Qz
          simp only at z0 z1
          by_cases hlw : ordI ra rn za zn < 0
          · have hlw2 : decide (ordI ra rn za zn < 0) = true := decide_eq_true hlw
            go_upto_region 5 with fail
            refine wp_region_quiet_below (by kernel_rfl) (by kernel_rfl) ?_
            repeat (first | go_big_quiet_step (with_reducible exact ord_g _ _ _ _ _ _ _) | quiet_step (with_reducible exact ord_g _ _ _ _ _ _ _))
            refine wpQuiet_nil ?_
            intro _ hw'
            obtain ⟨⟨dq, osq⟩, hw''⟩ := hw'
            subst hw''
            have HU := Lib.hid (HT.out.reg dq osq)
            clear r0 r1 z0 z1 HT
            generalize grow (redrawn V dq) osq = V2 at *
            have r0 := HU.out.row.c0 lR
            have r1 := HU.out.row.c1 lR
            have rf := HU.out.row.f0 lR
            have rg := HU.out.row.f1 lR
            have z0 := HU.out.row.c0 lF
            have z1 := HU.out.row.c1 lF
            have zf := HU.out.row.f0 lF
            have zg := HU.out.row.f1 lF
            have HX := Lib.hid ((HU.out.swap lR lF).drew)
            rw [← Hr.out] at r0 r1 HX
            rw [← Hz.out] at z0 z1 HX
            simp only at r0 r1 z0 z1
            go_upto_region 6 with fail
            go_region
            go_wp2_with fail
            go_roundg (hi - (c))
            case measure => omega
            case rel =>
              refine ⟨c, swp dk (first + r) (first + (2 * r + 1)), by first | rfl | go_num, by omega, rfl, by rw [size_swp]; exact hsk, HX, ?_⟩
              show _ = _
              rw [← HO.out, sift_left (by omega) HC.out (by rw [show first + (2 * r + 1) = first + (2 * r + 1) by omega, ← Hr.out, ← Hz.out]; exact hlw2), show first + (2 * r + 1) = first + (2 * r + 1) by omega, show 2 * r + 1 = c by omega]
          · have hlw2 : decide (ordI ra rn za zn < 0) = false := decide_eq_false hlw
            go_upto_region 5 with fail
            refine wp_region_quiet_below (by kernel_rfl) (by kernel_rfl) ?_
            repeat (first | go_big_quiet_step (with_reducible exact ord_g _ _ _ _ _ _ _) | quiet_step (with_reducible exact ord_g _ _ _ _ _ _ _))
            refine wpQuiet_nil ?_
            intro _ hw'
            obtain ⟨⟨dq, osq⟩, hw''⟩ := hw'
            subst hw''
            have HU := Lib.hid (HT.out.reg dq osq)
            clear r0 r1 z0 z1 HT
            generalize grow (redrawn V dq) osq = V2 at *
            go_wp2_with fail
            (try simp only [Exit.inBlock, Exit.then])
            refine bodyPost_ret (results_none rfl _ _ _) rfl ?_
            refine ⟨rfl, ?_⟩
            have h := HU.out
            rw [← HO.out, sift_left_end (by omega) HC.out (by rw [show first + (2 * r + 1) = first + (2 * r + 1) by omega, ← Hr.out, ← Hz.out]; exact hlw2)]
            exact h
      · have h2z : ¬ 2 * (r : Int) + 1 + 1 < (hi : Int) := by omega
        have h2d : decide (2 * (r : Int) + 1 + 1 < (hi : Int)) = false := decide_eq_false h2z
        have HC := Lib.hid (show (decide (2 * r + 1 + 1 < hi) && pltB dk[first + (2 * r + 1)]! dk[first + (2 * r + 1) + 1]!) = false by
          rw [decide_eq_false (by omega), Bool.false_and])
        have HS0 := Lib.hid HS.out
        go_upto_region 3 with fail
        refine wp_region_quiet_below (by kernel_rfl) (by kernel_rfl) ?_
        repeat (first | go_big_quiet_step (with_reducible exact ord_g _ _ _ _ _ _ _) | quiet_step (with_reducible exact ord_g _ _ _ _ _ _ _))
        refine wpQuiet_nil ?_
        intro _ hw'
        obtain ⟨⟨dq, osq⟩, hw''⟩ := hw'
        subst hw''
        have HT := Lib.hid (HS.out.reg dq osq)
        clear HS0 HS
        generalize grow (redrawn wr dq) osq = V at *
        have lR : first + r < dk.size := by omega
        have rrp : (0 : Int) ≤ (first : Int) + (r : Int) := by omega
        have rrq : (first : Int) + (r : Int) < (d.size : Int) := by omega
        have rrr : ((first : Int) + (r : Int)).toNat = first + r := by omega
        have rrw : IntKind.i64.wrap ((first : Int) + (r : Int)) = (first : Int) + (r : Int) := by rw [IntKind.wrap_i64]; omega
        have r0 := cell_regrown (HT.out.row.c0 lR)
        have r1 := cell_regrown (HT.out.row.c1 lR)
        obtain ⟨Qr, hr⟩ : ∃ Q, Q = dk[first + r]! := ⟨_, rfl⟩
        rw [← hr] at r0 r1
        have Hr := Lib.hid hr
        clear hr
        obtain ⟨ra, rn⟩ := Qr
        simp only at r0 r1
        have z0 := cell_regrown (HT.out.row.c0 lF)
        have z1 := cell_regrown (HT.out.row.c1 lF)
        obtain ⟨Qz, hz⟩ : ∃ Q, Q = dk[first + (2 * r + 1)]! := ⟨_, rfl⟩
        rw [← hz] at z0 z1
        have Hz := Lib.hid hz
        clear hz
        obtain ⟨za, zn⟩ := Qz
        simp only at z0 z1
        by_cases hlw : ordI ra rn za zn < 0
        · have hlw2 : decide (ordI ra rn za zn < 0) = true := decide_eq_true hlw
          go_upto_region 5 with fail
          refine wp_region_quiet_below (by kernel_rfl) (by kernel_rfl) ?_
          repeat (first | go_big_quiet_step (with_reducible exact ord_g _ _ _ _ _ _ _) | quiet_step (with_reducible exact ord_g _ _ _ _ _ _ _))
          refine wpQuiet_nil ?_
          intro _ hw'
          obtain ⟨⟨dq, osq⟩, hw''⟩ := hw'
          subst hw''
          have HU := Lib.hid (HT.out.reg dq osq)
          clear r0 r1 z0 z1 HT
          generalize grow (redrawn V dq) osq = V2 at *
          have r0 := HU.out.row.c0 lR
          have r1 := HU.out.row.c1 lR
          have rf := HU.out.row.f0 lR
          have rg := HU.out.row.f1 lR
          have z0 := HU.out.row.c0 lF
          have z1 := HU.out.row.c1 lF
          have zf := HU.out.row.f0 lF
          have zg := HU.out.row.f1 lF
          have HX := Lib.hid ((HU.out.swap lR lF).drew)
          rw [← Hr.out] at r0 r1 HX
          rw [← Hz.out] at z0 z1 HX
          simp only at r0 r1 z0 z1
          go_upto_region 6 with fail
          go_region
          go_wp2_with fail
          go_roundg (hi - (c))
          case measure => omega
          case rel =>
            refine ⟨c, swp dk (first + r) (first + (2 * r + 1)), by first | rfl | go_num, by omega, rfl, by rw [size_swp]; exact hsk, HX, ?_⟩
            show _ = _
            rw [← HO.out, sift_left (by omega) HC.out (by rw [show first + (2 * r + 1) = first + (2 * r + 1) by omega, ← Hr.out, ← Hz.out]; exact hlw2), show first + (2 * r + 1) = first + (2 * r + 1) by omega, show 2 * r + 1 = c by omega]
        · have hlw2 : decide (ordI ra rn za zn < 0) = false := decide_eq_false hlw
          go_upto_region 5 with fail
          refine wp_region_quiet_below (by kernel_rfl) (by kernel_rfl) ?_
          repeat (first | go_big_quiet_step (with_reducible exact ord_g _ _ _ _ _ _ _) | quiet_step (with_reducible exact ord_g _ _ _ _ _ _ _))
          refine wpQuiet_nil ?_
          intro _ hw'
          obtain ⟨⟨dq, osq⟩, hw''⟩ := hw'
          subst hw''
          have HU := Lib.hid (HT.out.reg dq osq)
          clear r0 r1 z0 z1 HT
          generalize grow (redrawn V dq) osq = V2 at *
          go_wp2_with fail
          (try simp only [Exit.inBlock, Exit.then])
          refine bodyPost_ret (results_none rfl _ _ _) rfl ?_
          refine ⟨rfl, ?_⟩
          have h := HU.out
          rw [← HO.out, sift_left_end (by omega) HC.out (by rw [show first + (2 * r + 1) = first + (2 * r + 1) by omega, ← Hr.out, ← Hz.out]; exact hlw2)]
          exact h
    · have h1z : (hi : Int) ≤ 2 * (r : Int) + 1 := by omega
      go_wp2_with fail
      go_end0
      refine ⟨rfl, ?_⟩
      have h := HS.out
      rw [← HO.out, sift_end (by omega)]
      exact h
end Go.Proofs.YtmmoccceafcfkaaDoor
