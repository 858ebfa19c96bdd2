/- works. -/
import Derived.Test.YtahkhecfnimdbaaDoorK9
namespace Go.Proofs.YtahkhecfnimdbaaDoor
open Go.RowKit Go.Maps
set_option maxHeartbeats 4000000 in
theorem num_any (n : Int) (w : World) : Calls Tryd.prog 10 #[.int .i64 n] w fun e w' => e = .returned (.int .i64 n) ∧ w' = w := by
  go_enter Tryd.func10, Tryd.ntmps10
  go_wp2_with fail
  go_ret
  exact ⟨rfl, rfl⟩

abbrev s0 : St := ⟨[], 0, 0⟩
abbrev s1 : St := ⟨[⟨0, 167772418, 5, 1, 0⟩], 5, 0⟩
abbrev s2 : St := ⟨[⟨0, 167772418, 7, 2, 2⟩], 7, 0⟩
theorem hs1 : hearS s0 0 167772418 5 0 = (0, s1) := by rfl
theorem hs2 : hearS s1 0 167772418 7 2 = (0, s2) := by rfl
theorem hear1 (p m : Nat) (w : World) (h : NW w p m s0) : Calls Tryd.prog 11 #[.pointer (some ⟨p, 0, none⟩), .int .i64 0, .int .u32 167772418, .int .i64 5, .int .i64 0] w
    fun e w' => e = .returned (.int .i64 0) ∧ NW w' p m s1 ∧ Kp p m w w' := by
  have := Hear_any p m s0 0 167772418 5 0 w h (by omega) (by omega) (by omega)
  rw [hs1] at this
  exact this
theorem hear2 (p m : Nat) (w : World) (h : NW w p m s1) : Calls Tryd.prog 11 #[.pointer (some ⟨p, 0, none⟩), .int .i64 0, .int .u32 167772418, .int .i64 7, .int .i64 2] w
    fun e w' => e = .returned (.int .i64 0) ∧ NW w' p m s2 ∧ Kp p m w w' := by
  have := Hear_any p m s1 0 167772418 7 2 w h (by omega) (by omega) (by omega)
  rw [hs2] at this
  exact this
theorem get2 (p m : Nat) (w : World) (h : NW w p m s2) : Calls Tryd.prog 14 #[.pointer (some ⟨p, 0, none⟩), .int .i64 0, .int .u32 167772418] w
    fun e w' => e = .returned (.tuple #[.agg #[.int .i64 0, .int .u32 167772418, .int .i64 7, .int .i64 2, .int .i64 2], .bool true]) ∧ Below w.heap.size w w' :=
  Get_any p m s2.T s2.now s2.lost 0 167772418 w h.ns ⟨⟨by omega, by omega⟩, by omega, by omega⟩
theorem hear3 (p m : Nat) (w : World) (h : NW w p m s2) : Calls Tryd.prog 11 #[.pointer (some ⟨p, 0, none⟩), .int .i64 1, .int .u32 167772674, .int .i64 6, .int .i64 0] w
    fun e w' => e = .returned (.int .i64 170) ∧ Below w.heap.size w w' :=
  Hear_time p m s2.T s2.now s2.lost 1 167772674 6 0 w h.ns h.fb (by omega) (by omega) (by rfl) (Or.inl (by show (6 : Int) < 7; omega))
theorem hear4 (p m : Nat) (w : World) (h : NW w p m s2) : Calls Tryd.prog 11 #[.pointer (some ⟨p, 0, none⟩), .int .i64 1, .int .u32 2130706433, .int .i64 8, .int .i64 0] w
    fun e w' => e = .returned (.int .i64 2) ∧ Below w.heap.size w w' :=
  Hear_arg p m s2.T s2.now s2.lost 1 2130706433 8 0 w h.ns h.fb (by omega) (by omega) (by rfl)
theorem hear5 (p m : Nat) (w : World) (h : NW w p m s2) : Calls Tryd.prog 11 #[.pointer (some ⟨p, 0, none⟩), .int .i64 16, .int .u32 167772418, .int .i64 8, .int .i64 0] w
    fun e w' => e = .returned (.int .i64 2) ∧ Below w.heap.size w w' :=
  Hear_arg p m s2.T s2.now s2.lost 16 167772418 8 0 w h.ns h.fb (by omega) (by omega) (by rfl)
theorem since6 (p m : Nat) (w : World) (h : NW w p m s2) : Calls Tryd.prog 13 #[.pointer (some ⟨p, 0, none⟩), .int .i64 8] w
    fun e w' => e = .returned (.int .i64 1) ∧ NW w' p m ⟨[], 7, 0⟩ ∧ Kp p m w w' := Since_nw p m s2 8 w h
theorem len7 (p m : Nat) (w : World) (h : NW w p m ⟨[], 7, 0⟩) : Calls Tryd.prog 15 #[.pointer (some ⟨p, 0, none⟩)] w
    fun e w' => e = .returned (.int .i64 0) ∧ w = w' := Len_any p m [] 7 0 w h.ns
theorem now8 (p m : Nat) (w : World) (h : NW w p m ⟨[], 7, 0⟩) : Calls Tryd.prog 22 #[.pointer (some ⟨p, 0, none⟩)] w
    fun e w' => e = .returned (.int .i64 7) ∧ w = w' := Now_any p m [] 7 0 w h.ns

/-- what came of blocks p and m that were new is no change of what lay -/
theorem below_kp {p m : Nat} {w w1 w2 : World} (h : Below w.heap.size w w1) (hp : w.heap.size ≤ p) (hm : w.heap.size ≤ m) (k : Kp p m w1 w2) : Below w.heap.size w w2 :=
  ⟨k.os.trans h.os, k.tape.trans h.tape, k.output.trans h.output, Nat.le_trans h.size k.size, fun i hi => (k.block i (Nat.lt_of_lt_of_le hi h.size) (by omega) (by omega)).trans (h.block i hi)⟩

set_option maxHeartbeats 4000000 in
set_option maxRecDepth 100000 in
theorem works_any (w : World) (hF : FB w) : Calls Tryd.prog 8 #[] w fun e w' => e = .returned (.bool true) ∧ Below w.heap.size w w' := by
  have HF := Lib.hid hF
  clear hF
  go_enter Tryd.func8, Tryd.ntmps8
  go_wp2_with (first
    | (go_at_call 9; refine (New_nw _ HF.out).mono ?_; rintro e w1 ⟨⟨p, m, rfl, n0, hp, hm⟩, hb⟩; have N0 := Lib.hid n0; have HP := Lib.hid hp; have HM := Lib.hid hm; have HB := Lib.hid hb; clear n0 hp hm hb)
    | (go_at_call 11; with_reducible refine (hear1 _ _ _ N0.out).mono ?_; rintro e w2 ⟨rfl, n1, k1⟩; have N1 := Lib.hid n1; have K1 := Lib.hid k1; clear n1 k1)
    | (go_at_call 11; with_reducible refine (hear2 _ _ _ N1.out).mono ?_; rintro e w3 ⟨rfl, n2, k2⟩; have N2 := Lib.hid n2; have K2 := Lib.hid k2; clear n2 k2)
    | (go_at_call 14; with_reducible refine (get2 _ _ _ N2.out).mono ?_; rintro e w4 ⟨rfl, b3⟩; have N3 := Lib.hid (N2.out.below b3); have K3 := Lib.hid b3; clear b3)
    | (go_at_call 11; with_reducible refine (hear3 _ _ _ (N3.out.below (below_k _ _))).mono ?_; rintro e w5 ⟨rfl, b4⟩; have K4 := Lib.hid ((below_k _ _).trans (b4.mono (below_k _ _).size)); have N4 := Lib.hid (N3.out.below K4.out); have x0 := cell_below b4 (a := ⟨w4.heap.size, 0, none⟩) (v := .int .i64 0) (by simp [go_sem]); have x1 := cell_below b4 (a := ⟨w4.heap.size, 1, none⟩) (v := .int .u32 167772418) (by simp [go_sem]); have x2 := cell_below b4 (a := ⟨w4.heap.size, 2, none⟩) (v := .int .i64 7) (by simp [go_sem]); have x3 := cell_below b4 (a := ⟨w4.heap.size, 3, none⟩) (v := .int .i64 2) (by simp [go_sem]); have x4 := cell_below b4 (a := ⟨w4.heap.size, 4, none⟩) (v := .int .i64 2) (by simp [go_sem]); clear b4)
    | (go_at_call 11; with_reducible refine (hear4 _ _ _ N4.out).mono ?_; rintro e w6 ⟨rfl, b5⟩; have N5 := Lib.hid (N4.out.below b5); have K5 := Lib.hid b5; have y0 := cell_below b5 x0; have y1 := cell_below b5 x1; have y2 := cell_below b5 x2; have y3 := cell_below b5 x3; have y4 := cell_below b5 x4; clear b5 x0 x1 x2 x3 x4)
    | (go_at_call 11; with_reducible refine (hear5 _ _ _ N5.out).mono ?_; rintro e w7 ⟨rfl, b6⟩; have N6 := Lib.hid (N5.out.below b6); have K6 := Lib.hid b6; have z0 := cell_below b6 y0; have z1 := cell_below b6 y1; have z2 := cell_below b6 y2; have z3 := cell_below b6 y3; have z4 := cell_below b6 y4; clear b6 y0 y1 y2 y3 y4)
    | (go_at_call 10; refine (num_any _ _).mono ?_; rintro e w' ⟨rfl, rfl⟩)
    | (go_at_call 13; with_reducible refine (since6 _ _ _ N6.out).mono ?_; rintro e w8 ⟨rfl, n7, k7⟩; have N7 := Lib.hid n7; have K7 := Lib.hid k7; clear n7 k7)
    | (go_at_call 15; with_reducible refine (len7 _ _ _ N7.out).mono ?_; rintro e w' ⟨rfl, rfl⟩)
    | (go_at_call 22; with_reducible refine (now8 _ _ _ N7.out).mono ?_; rintro e w' ⟨rfl, rfl⟩))
  go_ret
  have hk := (((((K1.out.trans K2.out).trans (Kp.of_below K3.out)).trans (Kp.of_below K4.out)).trans (Kp.of_below K5.out)).trans (Kp.of_below K6.out)).trans K7.out
  exact ⟨rfl, below_kp HB.out HP.out HM.out hk⟩
end Go.Proofs.YtahkhecfnimdbaaDoor
