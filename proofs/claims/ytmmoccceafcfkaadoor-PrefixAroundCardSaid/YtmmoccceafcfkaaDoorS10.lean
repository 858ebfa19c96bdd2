/- slices.pdqsortCmpFunc over prefixes (fewer than 50): a sorted permutation. -/
import Derived.Test.YtmmoccceafcfkaaDoorS4
import Derived.Test.YtmmoccceafcfkaaDoorS5
import Derived.Test.YtmmoccceafcfkaaDoorS6
import Derived.Test.YtmmoccceafcfkaaDoorS8
import Derived.Test.YtmmoccceafcfkaaDoorS9
import Derived.Sort.LotB
namespace Go.Proofs.YtmmoccceafcfkaaDoor
open Go.RowKit Go.Shelf Go.Sort

abbrev BelowS := @Go.Sort.Below Pf _ pltB
/-- what the sort of [a, b) leaves -/
def PdqPost (w : World) (g a b : Nat) (d : Array Pf) (e : Ending) (w' : World) : Prop :=
  e = .returned (.tuple #[]) ∧ ∃ d' : Array Pf, SW w g d' w' ∧ d'.size = d.size ∧ PermIn a b d d' ∧ SortedIn pltB a b d'
set_option maxRecDepth 100000 in
set_option maxHeartbeats 16000000 in
theorem pdq_any (n : Nat) : ∀ (g cap a b lim : Nat) (d : Array Pf) (w : World), b - a ≤ n → SW w g d w → a ≤ b → b ≤ d.size → d.size ≤ 49 → lim ≤ 1000 → BelowS a b d →
    Calls Tryd.prog 108 #[.slice (some ⟨g, 0, none⟩) d.size cap, .int .i64 a, .int .i64 b, .int .i64 lim, fv] w fun e w' => PdqPost w g a b d e w' := by
  induction n using Nat.strongRecOn with
  | ind n IH =>
  intro g cap a b lim d w hn hA hab hb hd hlim hB
  have HA := Lib.hid hA
  have HIH := Lib.hid (fun (a2 b2 l2 : Nat) (dk : Array Pf) (W : World) (hW : SW w g dk W) (hs : dk.size = d.size) (h1 : b2 - a2 < n) (h2 : a2 ≤ b2) (h3 : b2 ≤ d.size) (h4 : l2 ≤ 1000) (h5 : BelowS a2 b2 dk) => by
    have h := (IH (b2 - a2) h1 g cap a2 b2 l2 dk W (Nat.le_refl _) hW.rowW h2 (by omega) (by omega) h4 h5).mono (R' := fun e w' => PdqPost w g a2 b2 dk e w') (fun e w' ⟨e1, d', q1, q2, q3, q4⟩ => ⟨e1, d', hW.then q1, q2, q3, q4⟩)
    rw [hs] at h
    exact h)
  have HIN := Lib.hid (fun (a2 b2 : Nat) (dk : Array Pf) (W : World) (hW : SW w g dk W) (hs : dk.size = d.size) (h2 : a2 ≤ b2) (h3 : b2 ≤ d.size) => by
    have h := (ins_any g cap a2 b2 dk W hW.rowW h2 (by omega) (by omega)).mono (R' := fun e w' => PdqPost w g a2 b2 dk e w') (fun e w' ⟨e1, q1⟩ => by
      obtain ⟨p1, p2⟩ := insertionSort_holds p_swo dk a2 b2 h2 (by omega)
      exact ⟨e1, _, hW.then q1, p1.1, p1, p2⟩)
    rw [hs] at h
    exact h)
  have HHP := Lib.hid (fun (a2 b2 : Nat) (dk : Array Pf) (W : World) (hW : SW w g dk W) (hs : dk.size = d.size) (h2 : a2 < b2) (h3 : b2 ≤ d.size) => by
    have h := (heap_any g cap a2 b2 dk W hW.rowW h2 (by omega) (by omega)).mono (R' := fun e w' => PdqPost w g a2 b2 dk e w') (fun e w' ⟨e1, q1⟩ => by
      obtain ⟨p1, p2⟩ := heapSort_holds p_swo dk a2 b2 (by omega) (by omega)
      exact ⟨e1, _, hW.then q1, p1.1, p1, p2⟩)
    rw [hs] at h
    exact h)
  have HBP := Lib.hid (fun (a2 b2 : Nat) (dk : Array Pf) (W : World) (hW : SW w g dk W) (hs : dk.size = d.size) (h2 : a2 + 8 ≤ b2) (h3 : b2 ≤ d.size) => by
    have h := (bp_any g cap a2 b2 dk W hW.rowW h2 (by omega) (by omega) (by omega)).mono (R' := fun e w' => e = .returned (.tuple #[]) ∧ ∃ d' : Array Pf, SW w g d' w' ∧ d'.size = d.size ∧ PermIn a2 b2 dk d') (fun e w' ⟨e1, d', q1, q2⟩ => ⟨e1, d', hW.then q1, q2.1.trans hs, q2⟩)
    rw [hs] at h
    exact h)
  have HPV := Lib.hid (fun (a2 b2 : Nat) (dk : Array Pf) (W : World) (hW : SW w g dk W) (hs : dk.size = d.size) (h2 : a2 + 8 ≤ b2) (h3 : b2 ≤ d.size) => by
    have h := (pivot_any g cap a2 b2 dk W hW.row hW.ltw h2 (by omega) (by omega) (by omega)).mono (R' := fun e w' => ∃ (p : Nat) (h : Int), e = .returned (.tuple #[.int .i64 p, .int .i64 h]) ∧ a2 ≤ p ∧ p < b2 ∧ (h = 0 ∨ h = 1) ∧ SW w g dk w') (fun e w' ⟨p, h, e1, q1, q2, q3, q4⟩ => ⟨p, h, e1, q1, q2, q3, hW.below q4⟩)
    rw [hs] at h
    exact h)
  have HPI := Lib.hid (fun (a2 b2 : Nat) (dk : Array Pf) (W : World) (hW : SW w g dk W) (hs : dk.size = d.size) (h2 : a2 < b2) (h3 : b2 ≤ d.size) => by
    have h := (part_any g cap a2 b2 dk W hW.row hW.ltw h2 (by omega) (by omega) (by omega)).mono (R' := fun e w' => ∃ r : Bool, e = .returned (.bool r) ∧ (r = true → SortedIn pltB a2 b2 dk) ∧ SW w g dk w') (fun e w' ⟨r, e1, q1, q2⟩ => ⟨r, e1, q1, hW.below q2⟩)
    rw [hs] at h
    exact h)
  have HPE := Lib.hid (fun (a2 b2 p : Nat) (dk : Array Pf) (W : World) (hW : SW w g dk W) (hs : dk.size = d.size) (h1 : a2 ≤ p) (h2 : p < b2) (h3 : b2 ≤ d.size) => by
    have h := (partEq_any g cap a2 b2 p dk W hW.rowW h1 h2 (by omega) (by omega)).mono (R' := fun e w' => ∃ (mid : Nat) (d4 : Array Pf), e = .returned (.int .i64 mid) ∧ partitionEqual pltB dk a2 b2 p = (mid, d4) ∧ SW w g d4 w') (fun e w' ⟨e1, q1⟩ => ⟨_, _, e1, rfl, hW.then q1⟩)
    rw [hs] at h
    exact h)
  have HPT := Lib.hid (fun (a2 b2 p : Nat) (dk : Array Pf) (W : World) (hW : SW w g dk W) (hs : dk.size = d.size) (h1 : a2 ≤ p) (h2 : p < b2) (h3 : b2 ≤ d.size) => by
    have h := (partition_any g cap a2 b2 p dk W hW.rowW h1 h2 (by omega) (by omega)).mono (R' := fun e w' => ∃ (mid : Nat) (ap : Bool) (d4 : Array Pf), e = .returned (.tuple #[.int .i64 mid, .bool ap]) ∧ partition pltB dk a2 b2 p = (mid, ap, d4) ∧ SW w g d4 w') (fun e w' ⟨e1, q1⟩ => ⟨_, _, _, e1, rfl, hW.then q1⟩)
    rw [hs] at h
    exact h)
  clear hA IH
  have HB := Lib.hid hB
  clear hB
  unfold fv at *
  go_enter Tryd.func108, Tryd.ntmps108
  go_wp2_with fail
  go_loopg [1, 2, 3, 10, 11] (b - a) (fun m va vb vl vx vy wr => ∃ (a1 b1 l1 : Nat) (x y : Bool) (dk : Array Pf), va = .int .i64 a1 ∧ vb = .int .i64 b1 ∧ vl = .int .i64 l1 ∧ vx = .bool x ∧ vy = .bool y ∧ m = b1 - a1 ∧ a ≤ a1 ∧ a1 ≤ b1 ∧ b1 ≤ b ∧ l1 ≤ 1000 ∧ dk.size = d.size ∧ Hid (SW w g dk wr) ∧ Hid (BelowS a1 b1 dk) ∧ Hid (∀ R, PermIn a1 b1 dk R → SortedIn pltB a1 b1 R → PermIn a b d R ∧ SortedIn pltB a b R))
  case atStart => exact ⟨a, b, lim, true, true, d, rfl, rfl, rfl, rfl, rfl, rfl, Nat.le_refl _, hab, Nat.le_refl _, hlim, rfl, HA, HB, fun R h1 h2 => ⟨h1, h2⟩⟩
  case round =>
    obtain ⟨a1, b1, l1, x, y, dk, rfl, rfl, rfl, rfl, rfl, hm, ha1, hab1, hb1, hl1, hsk, HS, HBe, HO⟩ := hrel
    obtain ⟨n1, hn1⟩ : ∃ n1 : Nat, b1 = a1 + n1 := ⟨b1 - a1, by omega⟩
    have eN : (b1 : Int) - (a1 : Int) = (n1 : Int) := by omega
    have HN := Lib.hid hn1
    clear hn1
    by_cases h12 : n1 ≤ 12
    · have h12z : (n1 : Int) ≤ 12 := by omega
      go_wp2_with (go_at_call 121; (with_reducible refine (HIN.out a1 b1 dk wr HS.out hsk hab1 (by omega)).mono ?_); rintro e w1 ⟨rfl, d', q1, q2, q3, q4⟩)
      go_end0
      obtain ⟨z1, z2⟩ := HO.out _ q3 q4
      exact ⟨rfl, d', q1, q2.trans hsk, z1, z2⟩
    · have h12z : ¬ (n1 : Int) ≤ 12 := by omega
      by_cases hl0 : l1 = 0
      · subst hl0
        have hlt1 : a1 < b1 := by have := HN.out; omega
        go_wp2_with (go_at_call 122; (with_reducible refine (HHP.out a1 b1 dk wr HS.out hsk hlt1 (by omega)).mono ?_); rintro e w1 ⟨rfl, d', q1, q2, q3, q4⟩)
        go_end0
        obtain ⟨z1, z2⟩ := HO.out _ q3 q4
        exact ⟨rfl, d', q1, q2.trans hsk, z1, z2⟩
      · have tl : ((l1 : Int) == 0) = false := by simp; omega
        have hlen : a1 + 12 < b1 := by have := HN.out; omega
        go_upto_if 39 with fail
        go_cut [3] (fun v wx => ∃ (l2 : Nat) (d1 : Array Pf), v = .int .i64 l2 ∧ l2 ≤ 1000 ∧ d1.size = d.size ∧ Hid (SW w g d1 wx) ∧ Hid (PermIn a1 b1 dk d1))
        case first => as_aux_lemma =>
          cases x with
          | false =>
            obtain ⟨lp, rfl⟩ : ∃ lp, l1 = lp + 1 := ⟨l1 - 1, by omega⟩
            go_wp2_with (go_at_call 123; (with_reducible refine (HBP.out a1 b1 dk wr HS.out hsk (by omega) (by omega)).mono ?_); rintro e w1 ⟨rfl, d', q1, q2, q3⟩)
            go_meet
            exact ⟨lp, d', by go_num, by omega, q2, q1, q3⟩
          | true =>
            go_wp2_with fail
            go_meet
            exact ⟨l1, dk, rfl, hl1, hsk, HS, permIn_refl _ _ _⟩
        case rest =>
        obtain ⟨l2, d1, rfl, hl2, hs1, HS1, HP1⟩ := hcut
        have HB1 := Lib.hid (show BelowS a1 b1 d1 from HBe.out.perm (by omega) HP1.out)
        have HO1 := Lib.hid (show ∀ R, PermIn a1 b1 d1 R → SortedIn pltB a1 b1 R → PermIn a b d R ∧ SortedIn pltB a b R from fun R h1 h2 => HO.out R (permIn_trans _ _ _ _ _ HP1.out h1) h2)
        clear HS HBe HO HP1
        go_upto_if 56 with (go_at_call 124; (with_reducible refine (HPV.out a1 b1 d1 wc HS1.out hs1 (by omega) (by omega)).mono ?_); rintro e w2 ⟨p, h, rfl, hp1, hp2, hh, hs2⟩; have HS2 := Lib.hid hs2; clear hs2; have hne : (h == 2) = false := by (rcases hh with rfl | rfl <;> rfl))
        go_upto_region 15 with fail
        go_cut [75] (fun v wx => ∃ r : Bool, v = .bool r ∧ wx = w2)
        case first => as_aux_lemma =>
          rcases hh with rfl | rfl <;> cases x <;> cases y
          all_goals (go_wp2_with fail; go_meet; exact ⟨_, rfl, rfl⟩)
        case rest =>
        obtain ⟨r, rfl, rfl⟩ := hcut
        go_upto_if 75 with fail
        go_cut [] (fun wx => Hid (SW w g d1 wx))
        case first => as_aux_lemma =>
          cases r with
          | true =>
            go_upto_if 80 with (go_at_call 126; (with_reducible refine (HPI.out a1 b1 d1 wc HS2.out hs1 (by omega) (by omega)).mono ?_); rintro e w3 ⟨q, rfl, hq, hs3⟩; have HS3 := Lib.hid hs3; have HQ := Lib.hid hq; clear hs3 hq)
            cases q with
            | true =>
              go_wp2_with fail
              go_end0
              obtain ⟨z1, z2⟩ := HO1.out _ (permIn_refl _ _ _) (HQ.out (by simp))
              exact ⟨rfl, d1, HS3.out, hs1, z1, z2⟩
            | false =>
              go_wp2_with fail
              go_meet
              exact HS3
          | false =>
            go_wp2_with fail
            go_meet
            exact HS2
        case rest =>
        have HS3 := hcut
        clear HS1 HS2
        have lp : p < d1.size := by omega
        go_upto_region 17 with fail
        go_cut [97] (fun v wx => ∃ r2 : Bool, v = .bool r2 ∧ (r2 = true → 0 < a1 ∧ pltB d1[a1 - 1]! d1[p]! = false) ∧ Hid (SW w g d1 wx))
        case first => as_aux_lemma =>
          by_cases ha0 : 0 < a1
          · obtain ⟨ap, rfl⟩ : ∃ ap, a1 = ap + 1 := ⟨a1 - 1, by omega⟩
            have haz : (0 : Int) < (ap : Int) + 1 := by omega
            have l1 : ap < d1.size := by omega
            have up : (0 : Int) ≤ (ap : Int) := by omega
            have uq : (ap : Int) < (d.size : Int) := by omega
            have ur : ((ap : Int)).toNat = ap := by omega
            have uw : IntKind.i64.wrap ((ap : Int)) = (ap : Int) := by rw [IntKind.wrap_i64]; omega
            have kp : (0 : Int) ≤ (p : Int) := by omega
            have kq : (p : Int) < (d.size : Int) := by omega
            have kr : ((p : Int)).toNat = p := by omega
            have x0 := cell_regrown (HS3.out.row.c0 l1)
            have x1 := cell_regrown (HS3.out.row.c1 l1)
            obtain ⟨Qx, hx⟩ : ∃ Q, Q = d1[ap]! := ⟨_, rfl⟩
            rw [← hx] at x0 x1
            have Hx := Lib.hid hx
            clear hx
            obtain ⟨xa, xn⟩ := Qx
            simp only at x0 x1
            have y0 := cell_regrown (HS3.out.row.c0 lp)
            have y1 := cell_regrown (HS3.out.row.c1 lp)
            obtain ⟨Qy, hy⟩ : ∃ Q, Q = d1[p]! := ⟨_, rfl⟩
            rw [← hy] at y0 y1
            have Hy := Lib.hid hy
            clear hy
            obtain ⟨ya, yn⟩ := Qy
            simp only at y0 y1
            by_cases hlv : ordI xa xn ya yn < 0
            · have hlt2 : decide (ordI xa xn ya yn < 0) = true := decide_eq_true hlv
              have hl3 : (!decide (ordI xa xn ya yn < 0)) = false := by rw [hlt2]; rfl
              refine wp_region_quiet_below (by kernel_rfl) (by kernel_rfl) ?_
              repeat (first | go_big_quiet_step (with_reducible exact ord_g _ _ _ _ _ _ _) | quiet_step (with_reducible exact ord_g _ _ _ _ _ _ _))
              refine wpQuiet_nil ?_
              intro _ hw'
              obtain ⟨⟨dq, osq⟩, hw''⟩ := hw'
              subst hw''
              go_wp2_with fail
              go_meet
              exact ⟨false, rfl, fun h => (by cases h), HS3.out.reg dq osq⟩
            · have hlt2 : decide (ordI xa xn ya yn < 0) = false := decide_eq_false hlv
              have hl3 : (!decide (ordI xa xn ya yn < 0)) = true := by rw [hlt2]; rfl
              have HL := Lib.hid (show pltB d1[ap]! d1[p]! = false by rw [← Hx.out, ← Hy.out]; exact hlt2)
              refine wp_region_quiet_below (by kernel_rfl) (by kernel_rfl) ?_
              repeat (first | go_big_quiet_step (with_reducible exact ord_g _ _ _ _ _ _ _) | quiet_step (with_reducible exact ord_g _ _ _ _ _ _ _))
              refine wpQuiet_nil ?_
              intro _ hw'
              obtain ⟨⟨dq, osq⟩, hw''⟩ := hw'
              subst hw''
              go_wp2_with fail
              go_meet
              exact ⟨true, rfl, fun _ => ⟨by omega, HL.out⟩, HS3.out.reg dq osq⟩
          · obtain rfl : a1 = 0 := by omega
            refine wp_region_quiet_below (by kernel_rfl) (by kernel_rfl) ?_
            repeat (first | go_big_quiet_step (fail) | quiet_step (fail))
            refine wpQuiet_nil ?_
            intro _ hw'
            obtain ⟨⟨dq, osq⟩, hw''⟩ := hw'
            subst hw''
            go_wp2_with fail
            go_meet
            exact ⟨false, rfl, fun h => (by cases h), HS3.out.reg dq osq⟩
        case rest =>
        obtain ⟨r2, rfl, hr2, HS4⟩ := hcut
        clear HS3
        cases r2 with
        | true =>
          have HR2 := Lib.hid hr2
          clear hr2
          go_upto_region 19 with (go_at_call 127; (with_reducible refine (HPE.out a1 b1 p d1 wc HS4.out hs1 hp1 hp2 (by omega)).mono ?_); rintro e w4 ⟨mid, d4, rfl, hx4, hs4⟩; have HX4 := Lib.hid hx4; have HS5 := Lib.hid hs4; clear hx4 hs4)
          obtain ⟨z1, z2⟩ := HR2.out (by simp)
          obtain ⟨q1, q2, q3, q4, q5⟩ := round_eq p_swo (partitionEqual_holds pltB) z1 hp1 hp2 (by omega) HB1.out z2 HX4.out
          have HBn := Lib.hid q4
          have HOn := Lib.hid (fun R h1 h2 => HO1.out R (q5 R h1 h2).1 (q5 R h1 h2).2)
          clear z1 z2 q4 q5
          go_wp2_with fail
          go_roundg (b1 - mid)
          case measure => omega
          case rel => exact ⟨mid, b1, l2, x, y, d4, rfl, rfl, rfl, rfl, rfl, rfl, by omega, q2, hb1, hl2, by omega, HS5, HBn, HOn⟩
        | false =>
          clear hr2
          go_upto_region 21 with (go_at_call 128; (with_reducible refine (HPT.out a1 b1 p d1 wc HS4.out hs1 hp1 hp2 (by omega)).mono ?_); rintro e w4 ⟨mid, al, d4, rfl, hx4, hs4⟩; have HX4 := Lib.hid hx4; have HS5 := Lib.hid hs4; clear hx4 hs4)
          obtain ⟨q1, q2, q3, q4, q5, q6, q7⟩ := round_part p_swo (partition_holds pltB) hp1 hp2 (by omega) HB1.out HX4.out
          have HQ4 := Lib.hid q4
          have HQ5 := Lib.hid q5
          have HQ6 := Lib.hid q6
          have HQ7 := Lib.hid q7
          clear q4 q5 q6 q7
          obtain ⟨L, hL⟩ : ∃ L : Nat, mid = a1 + L := ⟨mid - a1, by omega⟩
          obtain ⟨R, hR⟩ : ∃ R : Nat, b1 = mid + R := ⟨b1 - mid, by omega⟩
          have eL : (mid : Int) - (a1 : Int) = (L : Int) := by omega
          have eR : (b1 : Int) - (mid : Int) = (R : Int) := by omega
          obtain ⟨Q, hQ⟩ : ∃ Q : Nat, Q = n1 / 8 := ⟨_, rfl⟩
          have eQ : (n1 : Int) / 8 = (Q : Int) := by omega
          have b4 : d4.size = d.size := by omega
          clear hL hR hQ
          by_cases hLR : L < R
          · have hLRz : (L : Int) < (R : Int) := by omega
            have HC := Lib.hid (HIH.out a1 mid l2 d4 w4 HS5.out b4 (by have := HN.out; omega) q1 (by omega) hl2 HQ4.out)
            go_wp2_with (go_at_call 108; (with_reducible refine HC.out.mono ?_); rintro e w5 ⟨rfl, d5, g1, g2, g3, g4⟩; have HG1 := Lib.hid g1; have HG3 := Lib.hid g3; have HG4 := Lib.hid g4; clear g1 g3 g4)
            obtain ⟨r1, r2⟩ := HQ6.out d5 HG3.out HG4.out
            have HBn := Lib.hid r1
            have HOn := Lib.hid (fun R h1 h2 => HO1.out R (r2 R h1 h2).1 (r2 R h1 h2).2)
            clear r1 r2
            go_roundg (b1 - (mid + 1))
            case measure => omega
            case rel => exact ⟨mid + 1, b1, l2, _, al, d5, by go_num, rfl, rfl, rfl, rfl, rfl, by omega, by omega, hb1, hl2, by omega, HG1, HBn, HOn⟩
          · have hLRz : ¬ (L : Int) < (R : Int) := by omega
            have HC := Lib.hid (HIH.out (mid + 1) b1 l2 d4 w4 HS5.out b4 (by have := HN.out; omega) (by omega) (by omega) hl2 HQ5.out)
            rw [show ((mid + 1 : Nat) : Int) = (mid : Int) + 1 by omega] at HC
            go_wp2_with (go_at_call 108; (with_reducible refine HC.out.mono ?_); rintro e w5 ⟨rfl, d5, g1, g2, g3, g4⟩; have HG1 := Lib.hid g1; have HG3 := Lib.hid g3; have HG4 := Lib.hid g4; clear g1 g3 g4)
            obtain ⟨r1, r2⟩ := HQ7.out d5 HG3.out HG4.out
            have HBn := Lib.hid r1
            have HOn := Lib.hid (fun R h1 h2 => HO1.out R (r2 R h1 h2).1 (r2 R h1 h2).2)
            clear r1 r2
            go_roundg (mid - a1)
            case measure => omega
            case rel => exact ⟨a1, mid, l2, _, al, d5, rfl, rfl, rfl, rfl, rfl, rfl, by omega, q1, by omega, hl2, by omega, HG1, HBn, HOn⟩
end Go.Proofs.YtmmoccceafcfkaaDoor
