/- NeighBounds: the walk. (Printed by gen_r5.py.) -/
import Derived.Test.YtahkhecfnimdbaaDoorR4
namespace Go.Proofs.YtahkhecfnimdbaaDoor
open Go.RowKit Go.Maps

set_option maxHeartbeats 8000000 in
set_option maxRecDepth 100000 in
theorem bounds_m (w : World) (hF : FB w) (what face bad addr mr : Int) :
    Calls Tryd.prog 6 #[.agg #[.int .i64 what, .int .i64 face, .int .i64 bad, .int .u32 addr, .int .i64 mr], .int .i64 (-1)] w fun e w' => e = .returned (.bool true) ∧ Below w.heap.size w w' := by
  have HF := Lib.hid hF
  clear hF
  have HB := Lib.hid (below_k w (.cells #[.int .i64 what, .int .i64 face, .int .i64 bad, .int .u32 addr, .int .i64 mr] 33))
  go_enter Tryd.func6, Tryd.ntmps6
  go_wp2_with (first
    | (go_at_call 14; with_reducible refine (Get_nil _ _ _).mono ?_; rintro e w1 ⟨rfl, hb⟩; have y1 := cell_below hb (a := ⟨w.heap.size, 1, none⟩) (v := .int .i64 face) (by simp [go_sem]); have y2 := cell_below hb (a := ⟨w.heap.size, 2, none⟩) (v := .int .i64 bad) (by simp [go_sem]); have y3 := cell_below hb (a := ⟨w.heap.size, 3, none⟩) (v := .int .u32 addr) (by simp [go_sem]); have y4 := cell_below hb (a := ⟨w.heap.size, 4, none⟩) (v := .int .i64 mr) (by simp [go_sem]); have yl : w.heap.size < w1.heap.size := lt_cell y1; have HB := Lib.hid (show Below w.heap.size w _ from (by first | exact bthen HB.out hb | exact bthen (bthen HB.out (below_k _ _)) hb)); clear hb)
    | (go_at_call 11; with_reducible refine (Hear_nil _ _ _ _ _).mono ?_; rintro e w2 ⟨rfl, hb⟩; clear y1 y2 y3 y4 yl; have HB := Lib.hid (show Below w.heap.size w _ from (by first | exact bthen HB.out hb | exact bthen (bthen HB.out (below_k _ _)) hb)); clear hb)
    | (go_at_call 10; with_reducible refine (num_any _ _).mono ?_; rintro e w' ⟨rfl, rfl⟩)
    | (go_at_call 12; with_reducible refine (Forget_nil _ _).mono ?_; rintro e w3 ⟨rfl, hb⟩; have HB := Lib.hid (show Below w.heap.size w _ from (by first | exact bthen HB.out hb | exact bthen (bthen HB.out (below_k _ _)) hb)); clear hb)
    | (go_at_call 13; with_reducible refine (Since_nil _ _).mono ?_; rintro e w4 ⟨rfl, hb⟩; have HB := Lib.hid (show Below w.heap.size w _ from (by first | exact bthen HB.out hb | exact bthen (bthen HB.out (below_k _ _)) hb)); clear hb)
    | (go_at_call 15; with_reducible refine (Len_nil _).mono ?_; rintro e w' ⟨rfl, rfl⟩)
    | (go_at_call 21; with_reducible refine (Lost_nil _).mono ?_; rintro e w' ⟨rfl, rfl⟩)
    | (go_at_call 22; with_reducible refine (Now_nil _).mono ?_; rintro e w' ⟨rfl, rfl⟩)
    | (go_at_call 17; with_reducible refine (All_nil _).mono ?_; rintro e w' ⟨rfl, rfl⟩)
    | (go_at_call 18; with_reducible refine (rows_nil _ _ _ (World.alloc_heap_new _ _)).mono ?_; rintro e w5 ⟨rfl, hb⟩; have HB := Lib.hid (show Below w.heap.size w _ from (by first | exact bthen HB.out hb | exact bthen (bthen HB.out (below_k _ _)) hb)); clear hb)
    | (go_at_call 23; with_reducible refine (Copy_nil _).mono ?_; rintro e w' ⟨rfl, rfl⟩)
    | (go_at_call 24; with_reducible refine (Same_nn _).mono ?_; rintro e w' ⟨rfl, rfl⟩)
    | (go_at_call 24; with_reducible refine (Same_tn _ _ _ _ _ _ N0.out.ns).mono ?_; rintro e w' ⟨rfl, rfl⟩)
    | (go_at_call 9; with_reducible refine (New_nw _ (HF.out.below HB.out)).mono ?_; rintro e w6 ⟨⟨p, m, rfl, n0, hp, hm⟩, hb⟩; have N0 := Lib.hid n0; have HP := Lib.hid (Nat.le_trans HB.out.size hp); have HM := Lib.hid (Nat.le_trans HB.out.size hm); clear n0 hp hm; have HB := Lib.hid (show Below w.heap.size w _ from (by first | exact bthen HB.out hb | exact bthen (bthen HB.out (below_k _ _)) hb)); clear hb))
  go_loopg [9] 62 (BRel w p m 62)
  case atStart => exact ⟨0, _, rfl, by omega, rfl, N0.out, HBs.zero, HB.out⟩
  case round =>
    obtain ⟨i, s, hn, hik, rfl, hw, hs, hbl⟩ := hrel
    have Hn := Lib.hid hn
    have HW := Lib.hid hw
    have HS := Lib.hid hs
    have HBL := Lib.hid hbl
    clear hn hw hs hbl
    by_cases hlt : i < 62
    · have t1 : decide ((i : Int) < 62) = true := by simp; omega
      have hc := Lib.hid (hearBs p m i s _ HW.out HS.out (by omega))
      go_wp2_with (first
        | (go_at_call 11; with_reducible refine hc.out.mono ?_; rintro e w7 ⟨rfl, ⟨s', n1, h1⟩, k1⟩; have N1 := Lib.hid n1; have H1 := Lib.hid h1; have K1 := Lib.hid k1; clear n1 h1 k1)
        | (go_at_call 10; with_reducible refine (num_any _ _).mono ?_; rintro e w' ⟨rfl, rfl⟩))
      go_roundg (62 - (i + 1))
      case measure => have := Hn.out; omega
      case rel => exact ⟨i + 1, s', rfl, by omega, by go_num, N1.out, H1.out, below_kp HBL.out HP.out HM.out K1.out⟩
    · obtain rfl : i = 62 := by omega
      have hc := Lib.hid (hearC p m 62 s _ HW.out HS.out (by omega) (by omega))
      go_wp2_with (first
        | (go_at_call 11; with_reducible refine hc.out.mono ?_; rintro e w7 ⟨rfl, ⟨s1, n1, h1⟩, k1⟩; have N1 := Lib.hid n1; have H1 := Lib.hid h1; have K1 := Lib.hid k1; clear n1 h1 k1)
        | (go_at_call 11; with_reducible refine (hearD1 p m 62 _ s1 _ N1.out H1.out).mono ?_; rintro e w8 ⟨rfl, ⟨s2, n2, h2⟩, k2⟩; have N2 := Lib.hid n2; have H2 := Lib.hid h2; have K2 := Lib.hid k2; clear n2 h2 k2)
        | (go_at_call 11; with_reducible refine (hearD2 p m 62 s2 _ N2.out H2.out).mono ?_; rintro e w9 ⟨rfl, ⟨s3, n3, h3⟩, k3⟩; have N3 := Lib.hid n3; have H3 := Lib.hid h3; have K3 := Lib.hid k3; clear n3 h3 k3)
        | (go_at_call 14; with_reducible refine (getD p m 62 s3 _ N3.out H3.out).mono ?_; rintro e w10 ⟨⟨gx, gy, gz, rfl⟩, hb⟩; have N4 := Lib.hid (N3.out.below (bthen hb (below_k _ (.cells #[.int .i64 gx, .int .u32 gy, .int .i64 gz, .int .i64 3, .int .i64 2147483647] 40)))); have K4 := Lib.hid (bthen hb (below_k _ (.cells #[.int .i64 gx, .int .u32 gy, .int .i64 gz, .int .i64 3, .int .i64 2147483647] 40))); clear hb)
        | (go_at_call 10; with_reducible refine (num_any _ _).mono ?_; rintro e w' ⟨rfl, rfl⟩)
        | (go_at_call 21; with_reducible refine (lostD p m 62 s3 _ N4.out H3.out).mono ?_; rintro e w' ⟨rfl, rfl⟩)
        | (go_at_call 22; with_reducible refine (nowD p m 62 s3 _ N4.out H3.out).mono ?_; rintro e w' ⟨rfl, rfl⟩)
        | (go_at_call 15; with_reducible refine (lenD p m 62 s3 _ N4.out H3.out).mono ?_; rintro e w' ⟨rfl, rfl⟩)
        | (go_at_call 8; refine (works_any _ N4.out.fb).mono ?_; rintro e w11 ⟨rfl, hb⟩; have B9 := Lib.hid hb; clear hb))
      go_ret
      have hk := ((K1.out.trans K2.out).trans K3.out).trans (Kp.of_below K4.out)
      exact ⟨rfl, bthen (below_kp HBL.out HP.out HM.out hk) B9.out⟩

set_option maxHeartbeats 8000000 in
set_option maxRecDepth 100000 in
theorem bounds_z (w : World) (hF : FB w) (what face bad addr mr : Int) :
    Calls Tryd.prog 6 #[.agg #[.int .i64 what, .int .i64 face, .int .i64 bad, .int .u32 addr, .int .i64 mr], .int .i64 0] w fun e w' => e = .returned (.bool true) ∧ Below w.heap.size w w' := by
  have HF := Lib.hid hF
  clear hF
  have HB := Lib.hid (below_k w (.cells #[.int .i64 what, .int .i64 face, .int .i64 bad, .int .u32 addr, .int .i64 mr] 33))
  go_enter Tryd.func6, Tryd.ntmps6
  go_wp2_with (first
    | (go_at_call 14; with_reducible refine (Get_nil _ _ _).mono ?_; rintro e w1 ⟨rfl, hb⟩; have y1 := cell_below hb (a := ⟨w.heap.size, 1, none⟩) (v := .int .i64 face) (by simp [go_sem]); have y2 := cell_below hb (a := ⟨w.heap.size, 2, none⟩) (v := .int .i64 bad) (by simp [go_sem]); have y3 := cell_below hb (a := ⟨w.heap.size, 3, none⟩) (v := .int .u32 addr) (by simp [go_sem]); have y4 := cell_below hb (a := ⟨w.heap.size, 4, none⟩) (v := .int .i64 mr) (by simp [go_sem]); have yl : w.heap.size < w1.heap.size := lt_cell y1; have HB := Lib.hid (show Below w.heap.size w _ from (by first | exact bthen HB.out hb | exact bthen (bthen HB.out (below_k _ _)) hb)); clear hb)
    | (go_at_call 11; with_reducible refine (Hear_nil _ _ _ _ _).mono ?_; rintro e w2 ⟨rfl, hb⟩; clear y1 y2 y3 y4 yl; have HB := Lib.hid (show Below w.heap.size w _ from (by first | exact bthen HB.out hb | exact bthen (bthen HB.out (below_k _ _)) hb)); clear hb)
    | (go_at_call 10; with_reducible refine (num_any _ _).mono ?_; rintro e w' ⟨rfl, rfl⟩)
    | (go_at_call 12; with_reducible refine (Forget_nil _ _).mono ?_; rintro e w3 ⟨rfl, hb⟩; have HB := Lib.hid (show Below w.heap.size w _ from (by first | exact bthen HB.out hb | exact bthen (bthen HB.out (below_k _ _)) hb)); clear hb)
    | (go_at_call 13; with_reducible refine (Since_nil _ _).mono ?_; rintro e w4 ⟨rfl, hb⟩; have HB := Lib.hid (show Below w.heap.size w _ from (by first | exact bthen HB.out hb | exact bthen (bthen HB.out (below_k _ _)) hb)); clear hb)
    | (go_at_call 15; with_reducible refine (Len_nil _).mono ?_; rintro e w' ⟨rfl, rfl⟩)
    | (go_at_call 21; with_reducible refine (Lost_nil _).mono ?_; rintro e w' ⟨rfl, rfl⟩)
    | (go_at_call 22; with_reducible refine (Now_nil _).mono ?_; rintro e w' ⟨rfl, rfl⟩)
    | (go_at_call 17; with_reducible refine (All_nil _).mono ?_; rintro e w' ⟨rfl, rfl⟩)
    | (go_at_call 18; with_reducible refine (rows_nil _ _ _ (World.alloc_heap_new _ _)).mono ?_; rintro e w5 ⟨rfl, hb⟩; have HB := Lib.hid (show Below w.heap.size w _ from (by first | exact bthen HB.out hb | exact bthen (bthen HB.out (below_k _ _)) hb)); clear hb)
    | (go_at_call 23; with_reducible refine (Copy_nil _).mono ?_; rintro e w' ⟨rfl, rfl⟩)
    | (go_at_call 24; with_reducible refine (Same_nn _).mono ?_; rintro e w' ⟨rfl, rfl⟩)
    | (go_at_call 24; with_reducible refine (Same_tn _ _ _ _ _ _ N0.out.ns).mono ?_; rintro e w' ⟨rfl, rfl⟩)
    | (go_at_call 9; with_reducible refine (New_nw _ (HF.out.below HB.out)).mono ?_; rintro e w6 ⟨⟨p, m, rfl, n0, hp, hm⟩, hb⟩; have N0 := Lib.hid n0; have HP := Lib.hid (Nat.le_trans HB.out.size hp); have HM := Lib.hid (Nat.le_trans HB.out.size hm); clear n0 hp hm; have HB := Lib.hid (show Below w.heap.size w _ from (by first | exact bthen HB.out hb | exact bthen (bthen HB.out (below_k _ _)) hb)); clear hb))
  go_loopg [9] 63 (BRel w p m 63)
  case atStart => exact ⟨0, _, rfl, by omega, rfl, N0.out, HBs.zero, HB.out⟩
  case round =>
    obtain ⟨i, s, hn, hik, rfl, hw, hs, hbl⟩ := hrel
    have Hn := Lib.hid hn
    have HW := Lib.hid hw
    have HS := Lib.hid hs
    have HBL := Lib.hid hbl
    clear hn hw hs hbl
    by_cases hlt : i < 63
    · have t1 : decide ((i : Int) < 63) = true := by simp; omega
      have hc := Lib.hid (hearBs p m i s _ HW.out HS.out (by omega))
      go_wp2_with (first
        | (go_at_call 11; with_reducible refine hc.out.mono ?_; rintro e w7 ⟨rfl, ⟨s', n1, h1⟩, k1⟩; have N1 := Lib.hid n1; have H1 := Lib.hid h1; have K1 := Lib.hid k1; clear n1 h1 k1)
        | (go_at_call 10; with_reducible refine (num_any _ _).mono ?_; rintro e w' ⟨rfl, rfl⟩))
      go_roundg (63 - (i + 1))
      case measure => have := Hn.out; omega
      case rel => exact ⟨i + 1, s', rfl, by omega, by go_num, N1.out, H1.out, below_kp HBL.out HP.out HM.out K1.out⟩
    · obtain rfl : i = 63 := by omega
      have hc := Lib.hid (hearC p m 63 s _ HW.out HS.out (by omega) (by omega))
      go_wp2_with (first
        | (go_at_call 11; with_reducible refine hc.out.mono ?_; rintro e w7 ⟨rfl, ⟨s1, n1, h1⟩, k1⟩; have N1 := Lib.hid n1; have H1 := Lib.hid h1; have K1 := Lib.hid k1; clear n1 h1 k1)
        | (go_at_call 11; with_reducible refine (hearD1 p m 63 _ s1 _ N1.out H1.out).mono ?_; rintro e w8 ⟨rfl, ⟨s2, n2, h2⟩, k2⟩; have N2 := Lib.hid n2; have H2 := Lib.hid h2; have K2 := Lib.hid k2; clear n2 h2 k2)
        | (go_at_call 11; with_reducible refine (hearD2 p m 63 s2 _ N2.out H2.out).mono ?_; rintro e w9 ⟨rfl, ⟨s3, n3, h3⟩, k3⟩; have N3 := Lib.hid n3; have H3 := Lib.hid h3; have K3 := Lib.hid k3; clear n3 h3 k3)
        | (go_at_call 14; with_reducible refine (getD p m 63 s3 _ N3.out H3.out).mono ?_; rintro e w10 ⟨⟨gx, gy, gz, rfl⟩, hb⟩; have N4 := Lib.hid (N3.out.below (bthen hb (below_k _ (.cells #[.int .i64 gx, .int .u32 gy, .int .i64 gz, .int .i64 3, .int .i64 2147483647] 40)))); have K4 := Lib.hid (bthen hb (below_k _ (.cells #[.int .i64 gx, .int .u32 gy, .int .i64 gz, .int .i64 3, .int .i64 2147483647] 40))); clear hb)
        | (go_at_call 10; with_reducible refine (num_any _ _).mono ?_; rintro e w' ⟨rfl, rfl⟩)
        | (go_at_call 21; with_reducible refine (lostD p m 63 s3 _ N4.out H3.out).mono ?_; rintro e w' ⟨rfl, rfl⟩)
        | (go_at_call 22; with_reducible refine (nowD p m 63 s3 _ N4.out H3.out).mono ?_; rintro e w' ⟨rfl, rfl⟩)
        | (go_at_call 15; with_reducible refine (lenD p m 63 s3 _ N4.out H3.out).mono ?_; rintro e w' ⟨rfl, rfl⟩)
        | (go_at_call 8; refine (works_any _ N4.out.fb).mono ?_; rintro e w11 ⟨rfl, hb⟩; have B9 := Lib.hid hb; clear hb))
      go_ret
      have hk := ((K1.out.trans K2.out).trans K3.out).trans (Kp.of_below K4.out)
      exact ⟨rfl, bthen (below_kp HBL.out HP.out HM.out hk) B9.out⟩

set_option maxHeartbeats 8000000 in
set_option maxRecDepth 100000 in
theorem bounds_p (w : World) (hF : FB w) (what face bad addr mr : Int) :
    Calls Tryd.prog 6 #[.agg #[.int .i64 what, .int .i64 face, .int .i64 bad, .int .u32 addr, .int .i64 mr], .int .i64 1] w fun e w' => e = .returned (.bool true) ∧ Below w.heap.size w w' := by
  have HF := Lib.hid hF
  clear hF
  have HB := Lib.hid (below_k w (.cells #[.int .i64 what, .int .i64 face, .int .i64 bad, .int .u32 addr, .int .i64 mr] 33))
  go_enter Tryd.func6, Tryd.ntmps6
  go_wp2_with (first
    | (go_at_call 14; with_reducible refine (Get_nil _ _ _).mono ?_; rintro e w1 ⟨rfl, hb⟩; have y1 := cell_below hb (a := ⟨w.heap.size, 1, none⟩) (v := .int .i64 face) (by simp [go_sem]); have y2 := cell_below hb (a := ⟨w.heap.size, 2, none⟩) (v := .int .i64 bad) (by simp [go_sem]); have y3 := cell_below hb (a := ⟨w.heap.size, 3, none⟩) (v := .int .u32 addr) (by simp [go_sem]); have y4 := cell_below hb (a := ⟨w.heap.size, 4, none⟩) (v := .int .i64 mr) (by simp [go_sem]); have yl : w.heap.size < w1.heap.size := lt_cell y1; have HB := Lib.hid (show Below w.heap.size w _ from (by first | exact bthen HB.out hb | exact bthen (bthen HB.out (below_k _ _)) hb)); clear hb)
    | (go_at_call 11; with_reducible refine (Hear_nil _ _ _ _ _).mono ?_; rintro e w2 ⟨rfl, hb⟩; clear y1 y2 y3 y4 yl; have HB := Lib.hid (show Below w.heap.size w _ from (by first | exact bthen HB.out hb | exact bthen (bthen HB.out (below_k _ _)) hb)); clear hb)
    | (go_at_call 10; with_reducible refine (num_any _ _).mono ?_; rintro e w' ⟨rfl, rfl⟩)
    | (go_at_call 12; with_reducible refine (Forget_nil _ _).mono ?_; rintro e w3 ⟨rfl, hb⟩; have HB := Lib.hid (show Below w.heap.size w _ from (by first | exact bthen HB.out hb | exact bthen (bthen HB.out (below_k _ _)) hb)); clear hb)
    | (go_at_call 13; with_reducible refine (Since_nil _ _).mono ?_; rintro e w4 ⟨rfl, hb⟩; have HB := Lib.hid (show Below w.heap.size w _ from (by first | exact bthen HB.out hb | exact bthen (bthen HB.out (below_k _ _)) hb)); clear hb)
    | (go_at_call 15; with_reducible refine (Len_nil _).mono ?_; rintro e w' ⟨rfl, rfl⟩)
    | (go_at_call 21; with_reducible refine (Lost_nil _).mono ?_; rintro e w' ⟨rfl, rfl⟩)
    | (go_at_call 22; with_reducible refine (Now_nil _).mono ?_; rintro e w' ⟨rfl, rfl⟩)
    | (go_at_call 17; with_reducible refine (All_nil _).mono ?_; rintro e w' ⟨rfl, rfl⟩)
    | (go_at_call 18; with_reducible refine (rows_nil _ _ _ (World.alloc_heap_new _ _)).mono ?_; rintro e w5 ⟨rfl, hb⟩; have HB := Lib.hid (show Below w.heap.size w _ from (by first | exact bthen HB.out hb | exact bthen (bthen HB.out (below_k _ _)) hb)); clear hb)
    | (go_at_call 23; with_reducible refine (Copy_nil _).mono ?_; rintro e w' ⟨rfl, rfl⟩)
    | (go_at_call 24; with_reducible refine (Same_nn _).mono ?_; rintro e w' ⟨rfl, rfl⟩)
    | (go_at_call 24; with_reducible refine (Same_tn _ _ _ _ _ _ N0.out.ns).mono ?_; rintro e w' ⟨rfl, rfl⟩)
    | (go_at_call 9; with_reducible refine (New_nw _ (HF.out.below HB.out)).mono ?_; rintro e w6 ⟨⟨p, m, rfl, n0, hp, hm⟩, hb⟩; have N0 := Lib.hid n0; have HP := Lib.hid (Nat.le_trans HB.out.size hp); have HM := Lib.hid (Nat.le_trans HB.out.size hm); clear n0 hp hm; have HB := Lib.hid (show Below w.heap.size w _ from (by first | exact bthen HB.out hb | exact bthen (bthen HB.out (below_k _ _)) hb)); clear hb))
  go_loopg [9] 64 (BRel w p m 64)
  case atStart => exact ⟨0, _, rfl, by omega, rfl, N0.out, HBs.zero, HB.out⟩
  case round =>
    obtain ⟨i, s, hn, hik, rfl, hw, hs, hbl⟩ := hrel
    have Hn := Lib.hid hn
    have HW := Lib.hid hw
    have HS := Lib.hid hs
    have HBL := Lib.hid hbl
    clear hn hw hs hbl
    by_cases hlt : i < 64
    · have t1 : decide ((i : Int) < 64) = true := by simp; omega
      have hc := Lib.hid (hearBs p m i s _ HW.out HS.out (by omega))
      go_wp2_with (first
        | (go_at_call 11; with_reducible refine hc.out.mono ?_; rintro e w7 ⟨rfl, ⟨s', n1, h1⟩, k1⟩; have N1 := Lib.hid n1; have H1 := Lib.hid h1; have K1 := Lib.hid k1; clear n1 h1 k1)
        | (go_at_call 10; with_reducible refine (num_any _ _).mono ?_; rintro e w' ⟨rfl, rfl⟩))
      go_roundg (64 - (i + 1))
      case measure => have := Hn.out; omega
      case rel => exact ⟨i + 1, s', rfl, by omega, by go_num, N1.out, H1.out, below_kp HBL.out HP.out HM.out K1.out⟩
    · obtain rfl : i = 64 := by omega
      have hc := Lib.hid (hearC p m 64 s _ HW.out HS.out (by omega) (by omega))
      go_wp2_with (first
        | (go_at_call 11; with_reducible refine hc.out.mono ?_; rintro e w7 ⟨rfl, ⟨s1, n1, h1⟩, k1⟩; have N1 := Lib.hid n1; have H1 := Lib.hid h1; have K1 := Lib.hid k1; clear n1 h1 k1)
        | (go_at_call 11; with_reducible refine (hearD1 p m 64 _ s1 _ N1.out H1.out).mono ?_; rintro e w8 ⟨rfl, ⟨s2, n2, h2⟩, k2⟩; have N2 := Lib.hid n2; have H2 := Lib.hid h2; have K2 := Lib.hid k2; clear n2 h2 k2)
        | (go_at_call 11; with_reducible refine (hearD2 p m 64 s2 _ N2.out H2.out).mono ?_; rintro e w9 ⟨rfl, ⟨s3, n3, h3⟩, k3⟩; have N3 := Lib.hid n3; have H3 := Lib.hid h3; have K3 := Lib.hid k3; clear n3 h3 k3)
        | (go_at_call 14; with_reducible refine (getD p m 64 s3 _ N3.out H3.out).mono ?_; rintro e w10 ⟨⟨gx, gy, gz, rfl⟩, hb⟩; have N4 := Lib.hid (N3.out.below (bthen hb (below_k _ (.cells #[.int .i64 gx, .int .u32 gy, .int .i64 gz, .int .i64 3, .int .i64 2147483647] 40)))); have K4 := Lib.hid (bthen hb (below_k _ (.cells #[.int .i64 gx, .int .u32 gy, .int .i64 gz, .int .i64 3, .int .i64 2147483647] 40))); clear hb)
        | (go_at_call 10; with_reducible refine (num_any _ _).mono ?_; rintro e w' ⟨rfl, rfl⟩)
        | (go_at_call 21; with_reducible refine (lostD p m 64 s3 _ N4.out H3.out).mono ?_; rintro e w' ⟨rfl, rfl⟩)
        | (go_at_call 22; with_reducible refine (nowD p m 64 s3 _ N4.out H3.out).mono ?_; rintro e w' ⟨rfl, rfl⟩)
        | (go_at_call 15; with_reducible refine (lenD p m 64 s3 _ N4.out H3.out).mono ?_; rintro e w' ⟨rfl, rfl⟩)
        | (go_at_call 8; refine (works_any _ N4.out.fb).mono ?_; rintro e w11 ⟨rfl, hb⟩; have B9 := Lib.hid hb; clear hb))
      go_ret
      have hk := ((K1.out.trans K2.out).trans K3.out).trans (Kp.of_below K4.out)
      exact ⟨rfl, bthen (below_kp HBL.out HP.out HM.out hk) B9.out⟩

end Go.Proofs.YtahkhecfnimdbaaDoor
