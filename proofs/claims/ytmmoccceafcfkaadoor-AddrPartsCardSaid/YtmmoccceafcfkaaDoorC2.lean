/- The walk of AddrParts. -/
import Derived.Test.YtmmoccceafcfkaaDoorC1
namespace Go.Proofs.YtmmoccceafcfkaaDoor
open Go.RowKit

theorem rParts_b (x y z t : Int) (w : World) (x0 : 0 ≤ x) (x1 : x ≤ 255) (y0 : 0 ≤ y) (y1 : y ≤ 255) (z0 : 0 ≤ z) (z1 : z ≤ 255) (t0 : 0 ≤ t) (t1 : t ≤ 255) :
    Calls Tryd.prog 34 #[.int .u32 (((x * 256 + y) * 256 + z) * 256 + t)] w fun e w' => e = .returned (.agg #[.int .i64 x, .int .i64 y, .int .i64 z, .int .i64 t]) ∧ Below w.heap.size w w' := by
  have h := rParts_any (((x * 256 + y) * 256 + z) * 256 + t) w (by omega) (by omega)
  rw [show (((x * 256 + y) * 256 + z) * 256 + t) / 16777216 = x by omega, show (((x * 256 + y) * 256 + z) * 256 + t) / 65536 % 256 = y by omega, show (((x * 256 + y) * 256 + z) * 256 + t) / 256 % 256 = z by omega, show (((x * 256 + y) * 256 + z) * 256 + t) % 256 = t by omega] at h
  exact h

set_option maxRecDepth 100000 in
set_option maxHeartbeats 4000000 in
theorem AddrParts_walk (a x y z t : Int) (w : World) (a0 : 0 ≤ a) (a1 : a < 4294967296) (x0 : 0 ≤ x) (x1 : x ≤ 255) (y0 : 0 ≤ y) (y1 : y ≤ 255) (z0 : 0 ≤ z) (z1 : z ≤ 255) (t0 : 0 ≤ t) (t1 : t ≤ 255) (ht : Pow w) :
    Calls Tryd.prog 6 #[.int .u32 a, .agg #[.int .u8 x, .int .u8 y, .int .u8 z, .int .u8 t]] w fun e w' => e = .returned (.bool true) ∧ Below w.heap.size w w' := by
  have HT := Lib.hid ht
  clear ht
  have bd0 : 0 ≤ a / 16777216 := by omega
  have bd1 : a / 16777216 < 256 := by omega
  go_enter Tryd.func6, Tryd.ntmps6
  go_wp2_with fail
  refine (Parts_any _ _ a0 a1).mono ?_
  rintro e w1 ⟨rfl, hb1⟩
  have hB1 : Below w.heap.size w w1 := bthen ((Below.refl _ _).alloc (Nat.le_refl _) _) hb1
  have s1 : w.heap.size < w1.heap.size := by have := hb1.size; simp at this; omega
  have p0 := (hb1.cell (p := ⟨w.heap.size, 0, none⟩) (by simp)).trans (show _ = some (.int .u8 x) by simp [go_sem])
  have p1 := (hb1.cell (p := ⟨w.heap.size, 1, none⟩) (by simp)).trans (show _ = some (.int .u8 y) by simp [go_sem])
  have p2 := (hb1.cell (p := ⟨w.heap.size, 2, none⟩) (by simp)).trans (show _ = some (.int .u8 z) by simp [go_sem])
  have p3 := (hb1.cell (p := ⟨w.heap.size, 3, none⟩) (by simp)).trans (show _ = some (.int .u8 t) by simp [go_sem])
  clear hb1
  go_wp2_with fail
  refine (rParts_any _ _ a0 a1).mono ?_
  rintro e w2 ⟨rfl, hb2⟩
  have hB2 := bthen hB1 hb2
  have s2 : w.heap.size < w2.heap.size := by have := hb2.size; omega
  have q0 := (hb2.cell (p := ⟨w.heap.size, 0, none⟩) s1).trans p0
  have q1 := (hb2.cell (p := ⟨w.heap.size, 1, none⟩) s1).trans p1
  have q2 := (hb2.cell (p := ⟨w.heap.size, 2, none⟩) s1).trans p2
  have q3 := (hb2.cell (p := ⟨w.heap.size, 3, none⟩) s1).trans p3
  clear p0 p1 p2 p3 hb2 hB1
  go_wp2_with fail
  refine (AddrOf _ _ _ _ _ x0 x1 y0 y1 z0 z1 t0 t1).mono ?_
  rintro e w3 ⟨rfl, hb3⟩
  have hB3 := bthen ((hB2.alloc hB2.size _).alloc (by have := hB2.size; simp; omega) _) hb3
  have s3 : w2.heap.size + 1 < w3.heap.size := by have := hb3.size; simp at this; omega
  have r0 := (hb3.cell (p := ⟨w.heap.size, 0, none⟩) (by simp; omega)).trans ((World.cell?_alloc_lt _ _ _ (by simp; omega)).trans ((World.cell?_alloc_lt _ _ _ s2).trans q0))
  have r1 := (hb3.cell (p := ⟨w.heap.size, 1, none⟩) (by simp; omega)).trans ((World.cell?_alloc_lt _ _ _ (by simp; omega)).trans ((World.cell?_alloc_lt _ _ _ s2).trans q1))
  have r2 := (hb3.cell (p := ⟨w.heap.size, 2, none⟩) (by simp; omega)).trans ((World.cell?_alloc_lt _ _ _ (by simp; omega)).trans ((World.cell?_alloc_lt _ _ _ s2).trans q2))
  have r3 := (hb3.cell (p := ⟨w.heap.size, 3, none⟩) (by simp; omega)).trans ((World.cell?_alloc_lt _ _ _ (by simp; omega)).trans ((World.cell?_alloc_lt _ _ _ s2).trans q3))
  have x0c := (hb3.cell (p := ⟨w2.heap.size, 0, none⟩) (by simp; omega)).trans (show _ = some (.int .u8 (a / 16777216)) by simp [go_sem])
  have x1c := (hb3.cell (p := ⟨w2.heap.size, 1, none⟩) (by simp; omega)).trans (show _ = some (.int .u8 (a / 65536 % 256)) by simp [go_sem])
  have x2c := (hb3.cell (p := ⟨w2.heap.size, 2, none⟩) (by simp; omega)).trans (show _ = some (.int .u8 (a / 256 % 256)) by simp [go_sem])
  have x3c := (hb3.cell (p := ⟨w2.heap.size, 3, none⟩) (by simp; omega)).trans (show _ = some (.int .u8 (a % 256)) by simp [go_sem])
  have y0c := (hb3.cell (p := ⟨w2.heap.size + 1, 0, none⟩) (by simp)).trans (show _ = some (.int .i64 (a / 16777216)) by simp [go_sem])
  have y1c := (hb3.cell (p := ⟨w2.heap.size + 1, 1, none⟩) (by simp)).trans (show _ = some (.int .i64 (a / 65536 % 256)) by simp [go_sem])
  have y2c := (hb3.cell (p := ⟨w2.heap.size + 1, 2, none⟩) (by simp)).trans (show _ = some (.int .i64 (a / 256 % 256)) by simp [go_sem])
  have y3c := (hb3.cell (p := ⟨w2.heap.size + 1, 3, none⟩) (by simp)).trans (show _ = some (.int .i64 (a % 256)) by simp [go_sem])
  clear q0 q1 q2 q3 hb3
  go_wp2_with fail
  refine (rParts_b _ _ _ _ _ x0 x1 y0 y1 z0 z1 t0 t1).mono ?_
  rintro e w4 ⟨rfl, hb4⟩
  have hB4 := bthen hB3 hb4
  have s4 : w2.heap.size + 1 < w4.heap.size := by have := hb4.size; omega
  have rr0 := (hb4.cell (p := ⟨w.heap.size, 0, none⟩) (show w.heap.size < w3.heap.size by omega)).trans r0
  have rr1 := (hb4.cell (p := ⟨w.heap.size, 1, none⟩) (show w.heap.size < w3.heap.size by omega)).trans r1
  have rr2 := (hb4.cell (p := ⟨w.heap.size, 2, none⟩) (show w.heap.size < w3.heap.size by omega)).trans r2
  have rr3 := (hb4.cell (p := ⟨w.heap.size, 3, none⟩) (show w.heap.size < w3.heap.size by omega)).trans r3
  have xx0 := (hb4.cell (p := ⟨w2.heap.size, 0, none⟩) (show w2.heap.size < w3.heap.size by omega)).trans x0c
  have xx1 := (hb4.cell (p := ⟨w2.heap.size, 1, none⟩) (show w2.heap.size < w3.heap.size by omega)).trans x1c
  have xx2 := (hb4.cell (p := ⟨w2.heap.size, 2, none⟩) (show w2.heap.size < w3.heap.size by omega)).trans x2c
  have xx3 := (hb4.cell (p := ⟨w2.heap.size, 3, none⟩) (show w2.heap.size < w3.heap.size by omega)).trans x3c
  have yy0 := (hb4.cell (p := ⟨w2.heap.size + 1, 0, none⟩) (show w2.heap.size + 1 < w3.heap.size by omega)).trans y0c
  have yy1 := (hb4.cell (p := ⟨w2.heap.size + 1, 1, none⟩) (show w2.heap.size + 1 < w3.heap.size by omega)).trans y1c
  have yy2 := (hb4.cell (p := ⟨w2.heap.size + 1, 2, none⟩) (show w2.heap.size + 1 < w3.heap.size by omega)).trans y2c
  have yy3 := (hb4.cell (p := ⟨w2.heap.size + 1, 3, none⟩) (show w2.heap.size + 1 < w3.heap.size by omega)).trans y3c
  clear r0 r1 r2 r3 x0c x1c x2c x3c y0c y1c y2c y3c hb4 hB2 hB3
  go_wp2_with fail
  have A0 : (w4.alloc (.cells #[.int .i64 x, .int .i64 y, .int .i64 z, .int .i64 t] 54)).cell? ⟨w.heap.size, 0, none⟩ = some (.int .u8 x) := (World.cell?_alloc_lt _ _ _ (show w.heap.size < w4.heap.size by omega)).trans rr0
  have A1 : (w4.alloc (.cells #[.int .i64 x, .int .i64 y, .int .i64 z, .int .i64 t] 54)).cell? ⟨w.heap.size, 1, none⟩ = some (.int .u8 y) := (World.cell?_alloc_lt _ _ _ (show w.heap.size < w4.heap.size by omega)).trans rr1
  have A2 : (w4.alloc (.cells #[.int .i64 x, .int .i64 y, .int .i64 z, .int .i64 t] 54)).cell? ⟨w.heap.size, 2, none⟩ = some (.int .u8 z) := (World.cell?_alloc_lt _ _ _ (show w.heap.size < w4.heap.size by omega)).trans rr2
  have A3 : (w4.alloc (.cells #[.int .i64 x, .int .i64 y, .int .i64 z, .int .i64 t] 54)).cell? ⟨w.heap.size, 3, none⟩ = some (.int .u8 t) := (World.cell?_alloc_lt _ _ _ (show w.heap.size < w4.heap.size by omega)).trans rr3
  have X0 : (w4.alloc (.cells #[.int .i64 x, .int .i64 y, .int .i64 z, .int .i64 t] 54)).cell? ⟨w2.heap.size, 0, none⟩ = some (.int .u8 (a / 16777216)) := (World.cell?_alloc_lt _ _ _ (show w2.heap.size < w4.heap.size by omega)).trans xx0
  have X1 : (w4.alloc (.cells #[.int .i64 x, .int .i64 y, .int .i64 z, .int .i64 t] 54)).cell? ⟨w2.heap.size, 1, none⟩ = some (.int .u8 (a / 65536 % 256)) := (World.cell?_alloc_lt _ _ _ (show w2.heap.size < w4.heap.size by omega)).trans xx1
  have X2 : (w4.alloc (.cells #[.int .i64 x, .int .i64 y, .int .i64 z, .int .i64 t] 54)).cell? ⟨w2.heap.size, 2, none⟩ = some (.int .u8 (a / 256 % 256)) := (World.cell?_alloc_lt _ _ _ (show w2.heap.size < w4.heap.size by omega)).trans xx2
  have X3 : (w4.alloc (.cells #[.int .i64 x, .int .i64 y, .int .i64 z, .int .i64 t] 54)).cell? ⟨w2.heap.size, 3, none⟩ = some (.int .u8 (a % 256)) := (World.cell?_alloc_lt _ _ _ (show w2.heap.size < w4.heap.size by omega)).trans xx3
  have Y0 : (w4.alloc (.cells #[.int .i64 x, .int .i64 y, .int .i64 z, .int .i64 t] 54)).cell? ⟨w2.heap.size + 1, 0, none⟩ = some (.int .i64 (a / 16777216)) := (World.cell?_alloc_lt _ _ _ s4).trans yy0
  have Y1 : (w4.alloc (.cells #[.int .i64 x, .int .i64 y, .int .i64 z, .int .i64 t] 54)).cell? ⟨w2.heap.size + 1, 1, none⟩ = some (.int .i64 (a / 65536 % 256)) := (World.cell?_alloc_lt _ _ _ s4).trans yy1
  have Y2 : (w4.alloc (.cells #[.int .i64 x, .int .i64 y, .int .i64 z, .int .i64 t] 54)).cell? ⟨w2.heap.size + 1, 2, none⟩ = some (.int .i64 (a / 256 % 256)) := (World.cell?_alloc_lt _ _ _ s4).trans yy2
  have Y3 : (w4.alloc (.cells #[.int .i64 x, .int .i64 y, .int .i64 z, .int .i64 t] 54)).cell? ⟨w2.heap.size + 1, 3, none⟩ = some (.int .i64 (a % 256)) := (World.cell?_alloc_lt _ _ _ s4).trans yy3
  have Z0 : (w4.alloc (.cells #[.int .i64 x, .int .i64 y, .int .i64 z, .int .i64 t] 54)).cell? ⟨w4.heap.size, 0, none⟩ = some (.int .i64 x) := by simp [go_sem]
  have Z1 : (w4.alloc (.cells #[.int .i64 x, .int .i64 y, .int .i64 z, .int .i64 t] 54)).cell? ⟨w4.heap.size, 1, none⟩ = some (.int .i64 y) := by simp [go_sem]
  have Z2 : (w4.alloc (.cells #[.int .i64 x, .int .i64 y, .int .i64 z, .int .i64 t] 54)).cell? ⟨w4.heap.size, 2, none⟩ = some (.int .i64 z) := by simp [go_sem]
  have Z3 : (w4.alloc (.cells #[.int .i64 x, .int .i64 y, .int .i64 z, .int .i64 t] 54)).cell? ⟨w4.heap.size, 3, none⟩ = some (.int .i64 t) := by simp [go_sem]
  have hBW := hB4.alloc hB4.size (.cells #[.int .i64 x, .int .i64 y, .int .i64 z, .int .i64 t] 54)
  generalize w4.alloc (.cells #[.int .i64 x, .int .i64 y, .int .i64 z, .int .i64 t] 54) = W at *
  clear rr0 rr1 rr2 rr3 xx0 xx1 xx2 xx3 yy0 yy1 yy2 yy3 hB4
  generalize w4.heap.size = B4 at *
  generalize w2.heap.size = B2 at *
  generalize hB0 : w.heap.size = B0 at A0 A1 A2 A3 ⊢
  have HB0 := Lib.hid hB0
  clear hB0
  go_loopw [9] (fun i wr => ∃ k m : Nat, k ≤ 4 ∧ i = .int .i64 k ∧ wr = W.drewN m) (fun i _ => 4 - (intOf i).toNat)
  case atStart => exact ⟨0, 0, by omega, rfl, rfl⟩
  case round =>
    obtain ⟨k, m, hk, rfl, rfl⟩ := hrel
    have hcases : k = 0 ∨ k = 1 ∨ k = 2 ∨ k = 3 ∨ k = 4 := by omega
    rcases hcases with rfl | rfl | rfl | rfl | rfl
    · go_wp2_with fail
      go_quiet (fail)
      go_wp2_with fail
      exact ⟨⟨1, m + nq, by omega, by go_num, rfl⟩, by simp [intOf]⟩
    · go_wp2_with fail
      go_quiet (fail)
      go_wp2_with fail
      exact ⟨⟨2, m + nq, by omega, by go_num, rfl⟩, by simp [intOf]⟩
    · go_wp2_with fail
      go_quiet (fail)
      go_wp2_with fail
      exact ⟨⟨3, m + nq, by omega, by go_num, rfl⟩, by simp [intOf]⟩
    · go_wp2_with fail
      go_quiet (fail)
      go_wp2_with fail
      exact ⟨⟨4, m + nq, by omega, by go_num, rfl⟩, by simp [intOf]⟩
    · have hBm : Below w.heap.size w (W.drewN m) := below_drewN hBW m
      generalize W.drewN m = W5 at *
      go_wp2_with fail
      refine (Kind_any _ _ a0 a1).mono ?_
      rintro e w6 ⟨rfl, hb6⟩
      go_wp2_with fail
      refine (rKind_any _ _ a0 a1).mono ?_
      rintro e w7 ⟨rfl, hb7⟩
      go_wp2_with fail
      refine (Kind_any _ _ (by omega) (by omega)).mono ?_
      rintro e w8 ⟨rfl, hb8⟩
      go_wp2_with fail
      refine (rKind_any _ _ (by omega) (by omega)).mono ?_
      rintro e w9 ⟨rfl, hb9⟩
      have hB9 := bthen (bthen (bthen (bthen hBm hb6) hb7) hb8) hb9
      go_wp2_with fail
      refine (works1 _ (tabBelow HT.out hB9)).mono ?_
      rintro e w10 ⟨rfl, hb10⟩
      go_wp2_with fail
      go_ret
      exact ⟨rfl, bthen hB9 hb10⟩
end Go.Proofs.YtmmoccceafcfkaaDoor
