/- slices.partitionEqualCmpFunc over prefixes. (Printed by gen_s7.py.) -/
import Derived.Test.YtmmoccceafcfkaaDoorS2
import Derived.Sort.WalkC
import Derived.Deep.CutBlock
namespace Go.Proofs.YtmmoccceafcfkaaDoor
open Go.RowKit Go.Shelf Go.Sort

/-- the two scans do not stop at one place -/
theorem scans_apart (p q : Pf → Bool) (hq : ∀ x, q x = !p x) (d : Array Pf) {i j i2 j2 : Nat} (hi2 : i2 = scanUp p d j i) (hj2 : j2 = scanDown q d i2 j) (h : ¬ j2 < i2) (h0 : 0 < i2) : i2 < j2 := by
  obtain ⟨u1, u2, u3, u4⟩ := scanUp_spec p d j _ i rfl
  obtain ⟨v1, v2, v3, v4⟩ := scanDown_spec q d i2 j
  rw [← hi2] at u4
  rw [← hj2] at v1 v4
  have f2 := v4 (by omega) (by omega)
  rcases Nat.lt_or_ge i2 j2 with h' | h'
  · exact h'
  · have e : i2 = j2 := by omega
    have f1 := u4 (by omega)
    rw [hq, ← e, f1] at f2
    cases f2
set_option maxRecDepth 100000 in
set_option maxHeartbeats 8000000 in
theorem partEq_any (g cap a b p : Nat) (d : Array Pf) (w : World) (hA : SW w g d w) (hap : a ≤ p) (hpb : p < b) (hb : b ≤ d.size) (hn : d.size ≤ 1000) :
    Calls Tryd.prog 127 #[.slice (some ⟨g, 0, none⟩) d.size cap, .int .i64 a, .int .i64 b, .int .i64 p, fv] w fun e w' => e = .returned (.int .i64 (partitionEqual pltB d a b p).1) ∧ SW w g (partitionEqual pltB d a b p).2 w' := by
  have HA := Lib.hid hA
  clear hA
  have l1 : a < d.size := by omega
  have l0 : p < d.size := by omega
  unfold fv
  go_enter Tryd.func127, Tryd.ntmps127
  have up : (0 : Int) ≤ (a : Int) := by omega
  have uq : (a : Int) < (d.size : Int) := by omega
  have ur : ((a : Int)).toNat = a := by omega
  have uw : IntKind.i64.wrap ((a : Int)) = (a : Int) := by rw [IntKind.wrap_i64]; omega
  have kp : (0 : Int) ≤ (p : Int) := by omega
  have kq : (p : Int) < (d.size : Int) := by omega
  have kr : ((p : Int)).toNat = p := by omega
  have kw : IntKind.i64.wrap ((p : Int)) = (p : Int) := by rw [IntKind.wrap_i64]; omega
  go_upto_region 1 with fail
  go_cut [] (fun wx => Hid (SW w g (swp d a p) wx))
  case first => as_aux_lemma =>
    by_cases hij : a = p
    · subst hij
      have x0 := HA.out.row.c0 l1
      have x1 := HA.out.row.c1 l1
      obtain ⟨Qx, hx⟩ : ∃ Q, Q = d[a]! := ⟨_, rfl⟩
      rw [← hx] at x0 x1
      have Hx := Lib.hid hx
      clear hx
      obtain ⟨xa, xn⟩ := Qx
      simp only at x0 x1
      have xf := HA.out.row.f0 l1
      have xg := HA.out.row.f1 l1
      have HU := Lib.hid ((HA.out.swap l1 l1).drew)
      rw [← Hx.out] at HU
      go_region
      go_wp2_with fail
      go_meet
      exact HU.out
    · have hij2 : a * 2 ≠ p * 2 := by omega
      have x0 := HA.out.row.c0 l1
      have x1 := HA.out.row.c1 l1
      obtain ⟨Qx, hx⟩ : ∃ Q, Q = d[a]! := ⟨_, rfl⟩
      rw [← hx] at x0 x1
      have Hx := Lib.hid hx
      clear hx
      obtain ⟨xa, xn⟩ := Qx
      simp only at x0 x1
      have y0 := HA.out.row.c0 l0
      have y1 := HA.out.row.c1 l0
      obtain ⟨Qy, hy⟩ : ∃ Q, Q = d[p]! := ⟨_, rfl⟩
      rw [← hy] at y0 y1
      have Hy := Lib.hid hy
      clear hy
      obtain ⟨ya, yn⟩ := Qy
      simp only at y0 y1
      have xf := HA.out.row.f0 l1
      have xg := HA.out.row.f1 l1
      have yf := HA.out.row.f0 l0
      have yg := HA.out.row.f1 l0
      have HU := Lib.hid ((HA.out.swap l1 l0).drew)
      rw [← Hx.out, ← Hy.out] at HU
      go_region
      go_wp2_with fail
      go_meet
      exact HU.out
  case rest =>
  have HS1 := hcut
  obtain ⟨d1, hd1⟩ : ∃ d1, d1 = swp d a p := ⟨_, rfl⟩
  have hs1 : d1.size = d.size := by rw [hd1, size_swp]
  rw [← hd1] at HS1
  have HD1 := Lib.hid hd1
  clear hd1 hcut up uq ur uw kp kq kr kw HA l1 l0
  go_wp2_with fail
  go_loopg [11, 12] (b - 1 + 1 - (a + 1)) (fun m vi vj wr => ∃ (i j : Nat) (dk : Array Pf), vi = .int .i64 i ∧ vj = .int .i64 j ∧ a < i ∧ i ≤ j + 1 ∧ j < b ∧ m = j + 1 - i ∧ dk.size = d.size ∧ Hid (SW w g dk wr) ∧ Hid (partEqLoop pltB a i j dk = partEqLoop pltB a (a + 1) (b - 1) (swp d a p)))
  case atStart => exact ⟨a + 1, b - 1, d1, by go_num, by go_num, by omega, by omega, by omega, rfl, hs1, HS1, by show _ = _; rw [HD1.out]⟩
  case round =>
    obtain ⟨i, j, dk, rfl, rfl, hai, hij, hjb, hm, hsk, HS, HO⟩ := hrel
    go_upto_block 2 with fail
    go_cut [11] (fun vi wx => ∃ i2 : Nat, vi = .int .i64 i2 ∧ i ≤ i2 ∧ i2 ≤ j + 1 ∧ Hid (i2 = scanUp (fun x => !pltB dk[a]! x) dk j i) ∧ Hid (SW w g dk wx))
    case first => as_aux_lemma =>
      go_wp2_with fail
      go_loopg [11] (j + 1 - i) (fun m vi wr => ∃ i1 : Nat, vi = .int .i64 i1 ∧ i ≤ i1 ∧ i1 ≤ j + 1 ∧ m = j + 1 - i1 ∧ Hid (SW w g dk wr) ∧ Hid (scanUp (fun x => !pltB dk[a]! x) dk j i1 = scanUp (fun x => !pltB dk[a]! x) dk j i))
      case atStart => exact ⟨i, rfl, by omega, by omega, rfl, HS, rfl⟩
      case round =>
        obtain ⟨i1, rfl, h1, h2, hm, HSs, HSc⟩ := hrel
        by_cases hle : i1 ≤ j
        · have hlez : (i1 : Int) ≤ (j : Int) := by omega
          have hled : decide ((i1 : Int) ≤ (j : Int)) = true := decide_eq_true hlez
          have l1 : i1 < dk.size := by omega
          have l0 : a < dk.size := by omega
          have up : (0 : Int) ≤ (i1 : Int) := by omega
          have uq : (i1 : Int) < (d.size : Int) := by omega
          have ur : ((i1 : Int)).toNat = i1 := by omega
          have uw : IntKind.i64.wrap ((i1 : Int)) = (i1 : Int) := by rw [IntKind.wrap_i64]; omega
          have kp : (0 : Int) ≤ (a : Int) := by omega
          have kq : (a : Int) < (d.size : Int) := by omega
          have kr : ((a : Int)).toNat = a := by omega
          have kw : IntKind.i64.wrap ((a : Int)) = (a : Int) := by rw [IntKind.wrap_i64]; omega
          have x0 := cell_regrown (HSs.out.row.c0 l1)
          have x1 := cell_regrown (HSs.out.row.c1 l1)
          obtain ⟨Qx, hx⟩ : ∃ Q, Q = dk[i1]! := ⟨_, rfl⟩
          rw [← hx] at x0 x1
          have Hx := Lib.hid hx
          clear hx
          obtain ⟨xa, xn⟩ := Qx
          simp only at x0 x1
          have y0 := cell_regrown (HSs.out.row.c0 l0)
          have y1 := cell_regrown (HSs.out.row.c1 l0)
          obtain ⟨Qy, hy⟩ : ∃ Q, Q = dk[a]! := ⟨_, rfl⟩
          rw [← hy] at y0 y1
          have Hy := Lib.hid hy
          clear hy
          obtain ⟨ya, yn⟩ := Qy
          simp only at y0 y1
          by_cases hlv : ordI ya yn xa xn < 0
          · have hlt2 : decide (ordI ya yn xa xn < 0) = true := decide_eq_true hlv
            have hl3 : (!decide (ordI ya yn xa xn < 0)) = false := by rw [hlt2]; rfl
            have HL3 := Lib.hid hl3
            clear hl3
            go_upto_region 3 with fail
            refine wp_region_quiet_below (by kernel_rfl) (by kernel_rfl) ?_
            repeat (first | go_big_quiet_step (with_reducible exact ord_g _ _ _ _ _ _ _) | quiet_step (with_reducible exact ord_g _ _ _ _ _ _ _))
            refine wpQuiet_nil ?_
            intro _ hw'
            obtain ⟨⟨dq, osq⟩, hw''⟩ := hw'
            subst hw''
            have HT := Lib.hid (HSs.out.reg dq osq)
            clear x0 x1 y0 y1 HSs
            generalize grow (redrawn wr dq) osq = V at *
            have hl3 := HL3.out
            go_wp2_with fail
            go_meet
            exact ⟨i1, rfl, h1, h2, by show _ = _; rw [← HSc.out, scanUp_end _ _ _ _ (.inr (show (fun x => !pltB dk[a]! x) dk[i1]! = false by simp only []; rw [← Hx.out, ← Hy.out]; exact hl3))], HT⟩
          · have hlt2 : decide (ordI ya yn xa xn < 0) = false := decide_eq_false hlv
            have hl3 : (!decide (ordI ya yn xa xn < 0)) = true := by rw [hlt2]; rfl
            have HL3 := Lib.hid hl3
            clear hl3
            go_upto_region 3 with fail
            refine wp_region_quiet_below (by kernel_rfl) (by kernel_rfl) ?_
            repeat (first | go_big_quiet_step (with_reducible exact ord_g _ _ _ _ _ _ _) | quiet_step (with_reducible exact ord_g _ _ _ _ _ _ _))
            refine wpQuiet_nil ?_
            intro _ hw'
            obtain ⟨⟨dq, osq⟩, hw''⟩ := hw'
            subst hw''
            have HT := Lib.hid (HSs.out.reg dq osq)
            clear x0 x1 y0 y1 HSs
            generalize grow (redrawn wr dq) osq = V at *
            have hl3 := HL3.out
            go_wp2_with fail
            go_roundg (j + 1 - (i1 + 1))
            case measure => omega
            case rel => exact ⟨i1 + 1, by go_num, by omega, by omega, rfl, HT, by show _ = _; rw [← scanUp_go _ _ _ _ hle (show (fun x => !pltB dk[a]! x) dk[i1]! = true by simp only []; rw [← Hx.out, ← Hy.out]; exact hl3)]; exact HSc.out⟩
        · have hlez : ¬ (i1 : Int) ≤ (j : Int) := by omega
          have hled : decide ((i1 : Int) ≤ (j : Int)) = false := decide_eq_false hlez
          go_upto_region 3 with fail
          refine wp_region_quiet_below (by kernel_rfl) (by kernel_rfl) ?_
          repeat (first | go_big_quiet_step (fail) | quiet_step (fail))
          refine wpQuiet_nil ?_
          intro _ hw'
          obtain ⟨⟨dq, osq⟩, hw''⟩ := hw'
          subst hw''
          go_wp2_with fail
          go_meet
          exact ⟨i1, rfl, h1, h2, by show _ = _; rw [← HSc.out, scanUp_end _ _ _ _ (.inl hle)], HSs.out.reg dq osq⟩
    case rest =>
    obtain ⟨i2, rfl, k1, k2, HI2, HS2⟩ := hcut
    go_upto_block 4 with fail
    go_cut [12] (fun vi wx => ∃ j2 : Nat, vi = .int .i64 j2 ∧ j2 ≤ j ∧ i2 ≤ j2 + 1 ∧ Hid (j2 = scanDown (fun x => pltB dk[a]! x) dk i2 j) ∧ Hid (SW w g dk wx))
    case first => as_aux_lemma =>
      go_wp2_with fail
      go_loopg [12] (j) (fun m vi wr => ∃ j1 : Nat, vi = .int .i64 j1 ∧ j1 ≤ j ∧ i2 ≤ j1 + 1 ∧ m = j1 ∧ Hid (SW w g dk wr) ∧ Hid (scanDown (fun x => pltB dk[a]! x) dk i2 j1 = scanDown (fun x => pltB dk[a]! x) dk i2 j))
      case atStart => exact ⟨j, rfl, by omega, by omega, rfl, HS2, rfl⟩
      case round =>
        obtain ⟨j1, rfl, h1, h2, hm, HSs, HSc⟩ := hrel
        by_cases hle : i2 ≤ j1
        · have hlez : (i2 : Int) ≤ (j1 : Int) := by omega
          have hled : decide ((i2 : Int) ≤ (j1 : Int)) = true := decide_eq_true hlez
          have l1 : j1 < dk.size := by omega
          have l0 : a < dk.size := by omega
          have up : (0 : Int) ≤ (j1 : Int) := by omega
          have uq : (j1 : Int) < (d.size : Int) := by omega
          have ur : ((j1 : Int)).toNat = j1 := by omega
          have uw : IntKind.i64.wrap ((j1 : Int)) = (j1 : Int) := by rw [IntKind.wrap_i64]; omega
          have kp : (0 : Int) ≤ (a : Int) := by omega
          have kq : (a : Int) < (d.size : Int) := by omega
          have kr : ((a : Int)).toNat = a := by omega
          have kw : IntKind.i64.wrap ((a : Int)) = (a : Int) := by rw [IntKind.wrap_i64]; omega
          have x0 := cell_regrown (HSs.out.row.c0 l1)
          have x1 := cell_regrown (HSs.out.row.c1 l1)
          obtain ⟨Qx, hx⟩ : ∃ Q, Q = dk[j1]! := ⟨_, rfl⟩
          rw [← hx] at x0 x1
          have Hx := Lib.hid hx
          clear hx
          obtain ⟨xa, xn⟩ := Qx
          simp only at x0 x1
          have y0 := cell_regrown (HSs.out.row.c0 l0)
          have y1 := cell_regrown (HSs.out.row.c1 l0)
          obtain ⟨Qy, hy⟩ : ∃ Q, Q = dk[a]! := ⟨_, rfl⟩
          rw [← hy] at y0 y1
          have Hy := Lib.hid hy
          clear hy
          obtain ⟨ya, yn⟩ := Qy
          simp only at y0 y1
          by_cases hlv : ordI ya yn xa xn < 0
          · have hlt2 : decide (ordI ya yn xa xn < 0) = true := decide_eq_true hlv
            have hl3 : decide (ordI ya yn xa xn < 0) = true := hlt2
            have HL3 := Lib.hid hl3
            clear hl3
            go_upto_region 5 with fail
            refine wp_region_quiet_below (by kernel_rfl) (by kernel_rfl) ?_
            repeat (first | go_big_quiet_step (with_reducible exact ord_g _ _ _ _ _ _ _) | quiet_step (with_reducible exact ord_g _ _ _ _ _ _ _))
            refine wpQuiet_nil ?_
            intro _ hw'
            obtain ⟨⟨dq, osq⟩, hw''⟩ := hw'
            subst hw''
            have HT := Lib.hid (HSs.out.reg dq osq)
            clear x0 x1 y0 y1 HSs
            generalize grow (redrawn wr dq) osq = V at *
            have hl3 := HL3.out
            go_wp2_with fail
            go_roundg (j1 - 1)
            case measure => omega
            case rel => exact ⟨j1 - 1, by go_num, by omega, by omega, rfl, HT, by show _ = _; rw [← scanDown_go _ _ _ _ hle (by omega) (show (fun x => pltB dk[a]! x) dk[j1]! = true by simp only []; rw [← Hx.out, ← Hy.out]; exact hl3)]; exact HSc.out⟩
          · have hlt2 : decide (ordI ya yn xa xn < 0) = false := decide_eq_false hlv
            have hl3 : decide (ordI ya yn xa xn < 0) = false := hlt2
            have HL3 := Lib.hid hl3
            clear hl3
            go_upto_region 5 with fail
            refine wp_region_quiet_below (by kernel_rfl) (by kernel_rfl) ?_
            repeat (first | go_big_quiet_step (with_reducible exact ord_g _ _ _ _ _ _ _) | quiet_step (with_reducible exact ord_g _ _ _ _ _ _ _))
            refine wpQuiet_nil ?_
            intro _ hw'
            obtain ⟨⟨dq, osq⟩, hw''⟩ := hw'
            subst hw''
            have HT := Lib.hid (HSs.out.reg dq osq)
            clear x0 x1 y0 y1 HSs
            generalize grow (redrawn wr dq) osq = V at *
            have hl3 := HL3.out
            go_wp2_with fail
            go_meet
            exact ⟨j1, rfl, h1, h2, by show _ = _; rw [← HSc.out, scanDown_end _ _ _ _ (.inr (show (fun x => pltB dk[a]! x) dk[j1]! = false by simp only []; rw [← Hx.out, ← Hy.out]; exact hl3))], HT⟩
        · have hlez : ¬ (i2 : Int) ≤ (j1 : Int) := by omega
          have hled : decide ((i2 : Int) ≤ (j1 : Int)) = false := decide_eq_false hlez
          go_upto_region 5 with fail
          refine wp_region_quiet_below (by kernel_rfl) (by kernel_rfl) ?_
          repeat (first | go_big_quiet_step (fail) | quiet_step (fail))
          refine wpQuiet_nil ?_
          intro _ hw'
          obtain ⟨⟨dq, osq⟩, hw''⟩ := hw'
          subst hw''
          go_wp2_with fail
          go_meet
          exact ⟨j1, rfl, h1, h2, by show _ = _; rw [← HSc.out, scanDown_end _ _ _ _ (.inl hle)], HSs.out.reg dq osq⟩
    case rest =>
    obtain ⟨j2, rfl, k3, k4, HJ2, HS3⟩ := hcut
    by_cases hgt : j2 < i2
    · have hgtz : (j2 : Int) < (i2 : Int) := by omega
      go_wp2_with fail
      go_ret
      have e := partEq_break (lt := pltB) a i j dk HI2.out HJ2.out hgt
      have e2 : partitionEqual pltB d a b p = (i2, dk) := by unfold partitionEqual; rw [← HO.out, e]
      rw [e2]
      exact ⟨rfl, HS3.out⟩
    · have hgtz : ¬ (j2 : Int) < (i2 : Int) := by omega
      have hij2 := scans_apart (fun x => !pltB dk[a]! x) (fun x => pltB dk[a]! x) (fun x => by simp) dk HI2.out HJ2.out hgt (by omega)
      have HPG := Lib.hid (partEq_go (lt := pltB) a i j dk HI2.out HJ2.out (by omega))
      have l1 : i2 < dk.size := by omega
      have l0 : j2 < dk.size := by omega
      have up : (0 : Int) ≤ (i2 : Int) := by omega
      have uq : (i2 : Int) < (d.size : Int) := by omega
      have ur : ((i2 : Int)).toNat = i2 := by omega
      have uw : IntKind.i64.wrap ((i2 : Int)) = (i2 : Int) := by rw [IntKind.wrap_i64]; omega
      have kp : (0 : Int) ≤ (j2 : Int) := by omega
      have kq : (j2 : Int) < (d.size : Int) := by omega
      have kr : ((j2 : Int)).toNat = j2 := by omega
      have kw : IntKind.i64.wrap ((j2 : Int)) = (j2 : Int) := by rw [IntKind.wrap_i64]; omega
      go_upto_region 8 with fail
      go_cut [] (fun wx => Hid (SW w g (swp dk i2 j2) wx))
      case first => as_aux_lemma =>
        have hij3 : i2 * 2 ≠ j2 * 2 := by omega
        have x0 := HS3.out.row.c0 l1
        have x1 := HS3.out.row.c1 l1
        obtain ⟨Qx, hx⟩ : ∃ Q, Q = dk[i2]! := ⟨_, rfl⟩
        rw [← hx] at x0 x1
        have Hx := Lib.hid hx
        clear hx
        obtain ⟨xa, xn⟩ := Qx
        simp only at x0 x1
        have y0 := HS3.out.row.c0 l0
        have y1 := HS3.out.row.c1 l0
        obtain ⟨Qy, hy⟩ : ∃ Q, Q = dk[j2]! := ⟨_, rfl⟩
        rw [← hy] at y0 y1
        have Hy := Lib.hid hy
        clear hy
        obtain ⟨ya, yn⟩ := Qy
        simp only at y0 y1
        have xf := HS3.out.row.f0 l1
        have xg := HS3.out.row.f1 l1
        have yf := HS3.out.row.f0 l0
        have yg := HS3.out.row.f1 l0
        have HU := Lib.hid ((HS3.out.swap l1 l0).drew)
        rw [← Hx.out, ← Hy.out] at HU
        go_region
        go_wp2_with fail
        go_meet
        exact HU.out
      case rest =>
      have HW := hcut
      go_wp2_with fail
      go_roundg (j2 - 1 + 1 - (i2 + 1))
      case measure => omega
      case rel => exact ⟨i2 + 1, j2 - 1, swp dk i2 j2, by go_num, by go_num, by omega, by omega, by omega, rfl, by rw [size_swp]; exact hsk, HW, by show _ = _; rw [← HPG.out]; exact HO.out⟩
end Go.Proofs.YtmmoccceafcfkaaDoor
