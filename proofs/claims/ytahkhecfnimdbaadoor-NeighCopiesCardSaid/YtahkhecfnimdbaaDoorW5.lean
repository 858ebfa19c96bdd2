/- The law's is: do both stand alike? -/
import Derived.Test.YtahkhecfnimdbaaDoorW4
import Derived.Test.YtahkhecfnimdbaaDoorR2
namespace Go.Proofs.YtahkhecfnimdbaaDoor
open Go.RowKit Go.Maps

set_option maxHeartbeats 4000000 in
set_option maxRecDepth 100000 in
theorem is_any (p m : Nat) (s : St) (base : Option Addr) (cap : Nat) (w : World) (h : NW w p m s) (hO : OrdT s.T) (hR : RW w base s) :
    Calls Tryd.prog 20 #[.pointer (some ⟨p, 0, none⟩), RN base s.T.length cap s.now s.lost] w fun e w' => e = .returned (.bool true) ∧ Below w.heap.size w w' := by
  have B0 : Below w.heap.size w (w.alloc (rnObj base s.T.length cap s.now s.lost)).drew := (below_k _ _).drew
  have d0 : (w.alloc (rnObj base s.T.length cap s.now s.lost)).cell? ⟨w.heap.size, 0, none⟩ = some (.slice base s.T.length cap) := by simp [go_sem]
  have d1 : (w.alloc (rnObj base s.T.length cap s.now s.lost)).cell? ⟨w.heap.size, 1, none⟩ = some (.int .i64 s.now) := by simp [go_sem]
  have d2 : (w.alloc (rnObj base s.T.length cap s.now s.lost)).cell? ⟨w.heap.size, 2, none⟩ = some (.int .i64 s.lost) := by simp [go_sem]
  obtain ⟨g, hS⟩ := hR
  have hlen := h.len
  have hN0 := h.below B0
  have HAl := Lib.hid (All_any p m s.T s.now s.lost (w.alloc (rnObj base s.T.length cap s.now s.lost)).drew hN0.ns hO (by omega))
  have HN0 := Lib.hid hN0
  have HS0 := Lib.hid (hS.below B0)
  have HB0 := Lib.hid B0
  clear h hO hS hN0 B0
  go_enter Tryd.func20, Tryd.ntmps20
  go_upto_region 1 with fail
  generalize w.alloc (rnObj base s.T.length cap s.now s.lost) = W at *
  go_region_held3 (fun w' => w'.cell? ⟨w.heap.size, 0, none⟩ = some (.slice base s.T.length cap) ∧ w'.cell? ⟨w.heap.size, 1, none⟩ = some (.int .i64 s.now) ∧ w'.cell? ⟨w.heap.size, 2, none⟩ = some (.int .i64 s.lost))
    (go_keep)
    (first
      | ((with_reducible refine HAl.out.mono ?_); rintro e w3 ⟨bq, base3, g3, cap3, rfl, hq3, hs3, hb3⟩; have d0 := cell_below hb3 d0; have d1 := cell_below hb3 d1; have d2 := cell_below hb3 d2; have HQ3 := Lib.hid hq3; have HS3 := Lib.hid hs3; have HB3 := Lib.hid hb3; clear hq3 hs3 hb3)
      | ((with_reducible refine (rows_any bq s.T base3 base g3 g cap3 cap 999 w3 (by omega) HQ3.out HS3.out (HS0.out.below HB3.out)).mono ?_); rintro e w4 ⟨rfl, hb4⟩; have d0 := cell_below hb4 d0; have d1 := cell_below hb4 d1; have d2 := cell_below hb4 d2; have HB4 := Lib.hid (bthen HB3.out hb4); clear hb4)
      | ((with_reducible refine (Len_any p m s.T s.now s.lost w4 (HN0.out.below HB4.out).ns).mono ?_); rintro e w' ⟨rfl, rfl⟩)
      | ((with_reducible refine (Now_any p m s.T s.now s.lost w4 (HN0.out.below HB4.out).ns).mono ?_); rintro e w' ⟨rfl, rfl⟩)
      | ((with_reducible refine (Lost_any p m s.T s.now s.lost w4 (HN0.out.below HB4.out).ns).mono ?_); rintro e w' ⟨rfl, rfl⟩))
  go_wp2_with fail
  go_ret
  exact ⟨rfl, bthen HB0.out HB4.out⟩
end Go.Proofs.YtahkhecfnimdbaaDoor
