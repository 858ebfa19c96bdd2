/- The law's act: Forget, Since, Copy. -/
import Derived.Test.YtahkhecfnimdbaaDoorW2
namespace Go.Proofs.YtahkhecfnimdbaaDoor
open Go.RowKit Go.Maps

set_option maxHeartbeats 4000000 in
set_option maxRecDepth 100000 in
theorem act_forget (p m : Nat) (s : St) (base : Option Addr) (cap : Nat) (fc bd ad mr : Int) (w : World) (h : NW w p m s) (hR : RW w base s) :
    Calls Tryd.prog 16 #[.pointer (some ⟨p, 0, none⟩), RN base s.T.length cap s.now s.lost, actV 6 fc bd ad mr] w (fun e w' => ActPost w w' p m ⟨flT (fun r => decide (r.face = fc)) s.T, s.now, s.lost⟩ e) := by
  have B0 : Below w.heap.size w (((w.alloc (.cells #[.slice base s.T.length cap, .int .i64 s.now, .int .i64 s.lost] 47)).alloc (.cells #[.int .i64 6, .int .i64 fc, .int .i64 bd, .int .u32 ad, .int .i64 mr] 33)).alloc rnNil) := (((Below.refl _ _).alloc (Nat.le_refl _) _).alloc (by simp) _).alloc (by simp; omega) _
  have ab := AB.start w (.slice base s.T.length cap) (.int .i64 s.now) (.int .i64 s.lost) 6 fc bd ad mr
  have H := Lib.hid h
  have HB0 := Lib.hid B0
  have HAB := Lib.hid ab
  obtain ⟨gR, hSR⟩ := hR
  have HSR := Lib.hid hSR
  clear h hSR ab B0
  go_enter Tryd.func16, Tryd.ntmps16
  go_upto_region 1 with fail
  generalize (((w.alloc (.cells #[.slice base s.T.length cap, .int .i64 s.now, .int .i64 s.lost] 47)).alloc (.cells #[.int .i64 6, .int .i64 fc, .int .i64 bd, .int .u32 ad, .int .i64 mr] 33)).alloc rnNil) = wc at *
  have d0 := HAB.out.d0
  have d1 := HAB.out.d1
  have d2 := HAB.out.d2
  have q0 := HAB.out.a0
  have q1 := HAB.out.a1
  have q4 := HAB.out.a4
  have HH := Lib.hid (rForget_any base gR cap s.T s.now s.lost fc wc (HSR.out.below HB0.out) (by have := H.out.len; omega))
  go_upto_region 15 with (go_at_call 35; refine HH.out.mono ?_; rintro e w2 ⟨⟨v, rfl, base', g', cap', rfl, hr2⟩, hb2⟩; have HR2 := Lib.hid hr2; have HB2 := Lib.hid hb2; clear hr2 hb2)
  generalize hT' : flT (fun r => decide (r.face = fc)) s.T = T' at *
  have HT' := Lib.hid hT'
  clear hT' d0 d1 d2 q0 q1 q4 HH
  have B3 : Below w2.heap.size w2 (w2.alloc (.cells #[.slice base' T'.length cap', .int .i64 s.now, .int .i64 s.lost] 47)) := below_k _ _
  have HB3 := Lib.hid (bthen HB0.out (bthen HB2.out B3))
  have HAB3 := Lib.hid (HAB.out.below (bthen HB2.out B3))
  have HR3 := Lib.hid (HR2.out.below B3)
  have y0 : (w2.alloc (.cells #[.slice base' T'.length cap', .int .i64 s.now, .int .i64 s.lost] 47)).cell? ⟨w2.heap.size, 0, none⟩ = some (.slice base' T'.length cap') := by simp [go_sem]
  have y1 : (w2.alloc (.cells #[.slice base' T'.length cap', .int .i64 s.now, .int .i64 s.lost] 47)).cell? ⟨w2.heap.size, 1, none⟩ = some (.int .i64 s.now) := by simp [go_sem]
  have y2 : (w2.alloc (.cells #[.slice base' T'.length cap', .int .i64 s.now, .int .i64 s.lost] 47)).cell? ⟨w2.heap.size, 2, none⟩ = some (.int .i64 s.lost) := by simp [go_sem]
  have hX1 : w.heap.size + 1 + 1 < w2.heap.size := (HAB.out.below HB2.out).sz
  clear B3 HB2 HAB HR2
  generalize w2.alloc (.cells #[.slice base' T'.length cap', .int .i64 s.now, .int .i64 s.lost] 47) = W3 at *
  generalize w2.heap.size = X at *
  have q1 := HAB3.out.a1
  have hpl := H.out.ns.plt
  have hml := H.out.ns.mlt
  have HN3 := Lib.hid (H.out.below HB3.out)
  have hc := Forget_nw p m s fc W3.drew (HN3.out.below ((Below.refl _ _).drew))
  have hTT : forgetT fc s.T = T' := HT'.out
  rw [hTT] at hc
  have HC := Lib.hid hc
  clear hc hTT
  have x1 : X ≠ w.heap.size + 1 + 1 := by omega
  have x2 : w.heap.size + 1 + 1 ≠ X := by omega
  have x3 : w.heap.size + 1 ≠ w.heap.size + 1 + 1 := by omega
  have x4 : w.heap.size + 1 + 1 ≠ w.heap.size + 1 := by omega
  go_region_held3 (fun w' => w'.cell? ⟨X, 0, none⟩ = some (.slice base' T'.length cap') ∧ w'.cell? ⟨X, 1, none⟩ = some (.int .i64 s.now) ∧ w'.cell? ⟨X, 2, none⟩ = some (.int .i64 s.lost) ∧ w'.cell? ⟨w.heap.size + 1, 1, none⟩ = some (.int .i64 fc))
    (go_keep)
    ((with_reducible refine HC.out.mono ?_; rintro e w4 ⟨rfl, hn, hk⟩; have hk3 := (Kp.of_below ((Below.refl _ W3).drew)).trans hk; have ab4 := HAB3.out.kp hk3 hpl hml; have q1 := ab4.a1; have y0 := hk3.cell y0 (by simp; omega) (by simp; omega); have y1 := hk3.cell y1 (by simp; omega) (by simp; omega); have y2 := hk3.cell y2 (by simp; omega) (by simp; omega); have e0 := ab4.e0; have e1 := ab4.e1; have e2 := ab4.e2; have f2 := ab4.f2; have HK4 := Lib.hid hk3; have HN4 := Lib.hid hn; have HAB4 := Lib.hid ab4; clear hn hk hk3 ab4))
  have hfin := act_fin (s1 := ⟨T', s.now, s.lost⟩) (s' := ⟨T', s.now, s.lost⟩) HAB4.out ((Kp.of_below HB3.out).trans HK4.out) H.out HN4.out (RW.kp (s := ⟨T', s.now, s.lost⟩) ⟨g', HR3.out⟩ HN3.out.ns HK4.out) (List.Perm.refl _) rfl rfl (cap := cap')
  obtain ⟨c0, c1, c2⟩ := cells3_of (box3_out HAB4.out.b2 (.slice base' T'.length cap') (.int .i64 s.now) (.int .i64 s.lost))
  clear y0 y1 y2 q1 e0 e1 e2 f2
  have HFin := Lib.hid hfin
  clear hfin
  dsimp only at HFin
  generalize (((w4.setCell ⟨w.heap.size + 1 + 1, 0, none⟩ (.slice base' T'.length cap')).setCell ⟨w.heap.size + 1 + 1, 1, none⟩ (.int .i64 s.now)).setCell ⟨w.heap.size + 1 + 1, 2, none⟩ (.int .i64 s.lost)) = WF at *
  go_wp2_with fail
  exact bodyPost_ret (v := .tuple #[.pointer (some ⟨p, 0, none⟩), RN base' T'.length cap' s.now s.lost, .bool true]) (by simp [results, Tryd.results16, go_sem, c0, c1, c2]) rfl (by rw [HT'.out]; exact HFin.out)

set_option maxHeartbeats 4000000 in
set_option maxRecDepth 100000 in
theorem act_since (p m : Nat) (s : St) (base : Option Addr) (cap : Nat) (fc bd ad mr : Int) (w : World) (h : NW w p m s) (hR : RW w base s) :
    Calls Tryd.prog 16 #[.pointer (some ⟨p, 0, none⟩), RN base s.T.length cap s.now s.lost, actV 7 fc bd ad mr] w (fun e w' => ActPost w w' p m ⟨flT (fun r => decide (r.last < mr)) s.T, s.now, s.lost⟩ e) := by
  have B0 : Below w.heap.size w (((w.alloc (.cells #[.slice base s.T.length cap, .int .i64 s.now, .int .i64 s.lost] 47)).alloc (.cells #[.int .i64 7, .int .i64 fc, .int .i64 bd, .int .u32 ad, .int .i64 mr] 33)).alloc rnNil) := (((Below.refl _ _).alloc (Nat.le_refl _) _).alloc (by simp) _).alloc (by simp; omega) _
  have ab := AB.start w (.slice base s.T.length cap) (.int .i64 s.now) (.int .i64 s.lost) 7 fc bd ad mr
  have H := Lib.hid h
  have HB0 := Lib.hid B0
  have HAB := Lib.hid ab
  obtain ⟨gR, hSR⟩ := hR
  have HSR := Lib.hid hSR
  clear h hSR ab B0
  go_enter Tryd.func16, Tryd.ntmps16
  go_upto_region 1 with fail
  generalize (((w.alloc (.cells #[.slice base s.T.length cap, .int .i64 s.now, .int .i64 s.lost] 47)).alloc (.cells #[.int .i64 7, .int .i64 fc, .int .i64 bd, .int .u32 ad, .int .i64 mr] 33)).alloc rnNil) = wc at *
  have d0 := HAB.out.d0
  have d1 := HAB.out.d1
  have d2 := HAB.out.d2
  have q0 := HAB.out.a0
  have q1 := HAB.out.a1
  have q4 := HAB.out.a4
  have HH := Lib.hid (rSince_any base gR cap s.T s.now s.lost mr wc (HSR.out.below HB0.out) (by have := H.out.len; omega))
  go_upto_region 18 with (go_at_call 36; refine HH.out.mono ?_; rintro e w2 ⟨⟨v, rfl, base', g', cap', rfl, hr2⟩, hb2⟩; have HR2 := Lib.hid hr2; have HB2 := Lib.hid hb2; clear hr2 hb2)
  generalize hT' : flT (fun r => decide (r.last < mr)) s.T = T' at *
  have HT' := Lib.hid hT'
  clear hT' d0 d1 d2 q0 q1 q4 HH
  have B3 : Below w2.heap.size w2 (w2.alloc (.cells #[.slice base' T'.length cap', .int .i64 s.now, .int .i64 s.lost] 47)) := below_k _ _
  have HB3 := Lib.hid (bthen HB0.out (bthen HB2.out B3))
  have HAB3 := Lib.hid (HAB.out.below (bthen HB2.out B3))
  have HR3 := Lib.hid (HR2.out.below B3)
  have y0 : (w2.alloc (.cells #[.slice base' T'.length cap', .int .i64 s.now, .int .i64 s.lost] 47)).cell? ⟨w2.heap.size, 0, none⟩ = some (.slice base' T'.length cap') := by simp [go_sem]
  have y1 : (w2.alloc (.cells #[.slice base' T'.length cap', .int .i64 s.now, .int .i64 s.lost] 47)).cell? ⟨w2.heap.size, 1, none⟩ = some (.int .i64 s.now) := by simp [go_sem]
  have y2 : (w2.alloc (.cells #[.slice base' T'.length cap', .int .i64 s.now, .int .i64 s.lost] 47)).cell? ⟨w2.heap.size, 2, none⟩ = some (.int .i64 s.lost) := by simp [go_sem]
  have hX1 : w.heap.size + 1 + 1 < w2.heap.size := (HAB.out.below HB2.out).sz
  clear B3 HB2 HAB HR2
  generalize w2.alloc (.cells #[.slice base' T'.length cap', .int .i64 s.now, .int .i64 s.lost] 47) = W3 at *
  generalize w2.heap.size = X at *
  have q4 := HAB3.out.a4
  have hpl := H.out.ns.plt
  have hml := H.out.ns.mlt
  have HN3 := Lib.hid (H.out.below HB3.out)
  have hc := Since_nw p m s mr W3.drew (HN3.out.below ((Below.refl _ _).drew))
  have hTT : sinceT mr s.T = T' := HT'.out
  rw [hTT] at hc
  have HC := Lib.hid hc
  clear hc hTT
  have x1 : X ≠ w.heap.size + 1 + 1 := by omega
  have x2 : w.heap.size + 1 + 1 ≠ X := by omega
  have x3 : w.heap.size + 1 ≠ w.heap.size + 1 + 1 := by omega
  have x4 : w.heap.size + 1 + 1 ≠ w.heap.size + 1 := by omega
  go_region_held3 (fun w' => w'.cell? ⟨X, 0, none⟩ = some (.slice base' T'.length cap') ∧ w'.cell? ⟨X, 1, none⟩ = some (.int .i64 s.now) ∧ w'.cell? ⟨X, 2, none⟩ = some (.int .i64 s.lost) ∧ w'.cell? ⟨w.heap.size + 1, 4, none⟩ = some (.int .i64 mr))
    (go_keep)
    ((with_reducible refine HC.out.mono ?_; rintro e w4 ⟨rfl, hn, hk⟩; have hk3 := (Kp.of_below ((Below.refl _ W3).drew)).trans hk; have ab4 := HAB3.out.kp hk3 hpl hml; have q4 := ab4.a4; have y0 := hk3.cell y0 (by simp; omega) (by simp; omega); have y1 := hk3.cell y1 (by simp; omega) (by simp; omega); have y2 := hk3.cell y2 (by simp; omega) (by simp; omega); have e0 := ab4.e0; have e1 := ab4.e1; have e2 := ab4.e2; have f2 := ab4.f2; have HK4 := Lib.hid hk3; have HN4 := Lib.hid hn; have HAB4 := Lib.hid ab4; clear hn hk hk3 ab4))
  have hfin := act_fin (s1 := ⟨T', s.now, s.lost⟩) (s' := ⟨T', s.now, s.lost⟩) HAB4.out ((Kp.of_below HB3.out).trans HK4.out) H.out HN4.out (RW.kp (s := ⟨T', s.now, s.lost⟩) ⟨g', HR3.out⟩ HN3.out.ns HK4.out) (List.Perm.refl _) rfl rfl (cap := cap')
  obtain ⟨c0, c1, c2⟩ := cells3_of (box3_out HAB4.out.b2 (.slice base' T'.length cap') (.int .i64 s.now) (.int .i64 s.lost))
  clear y0 y1 y2 q4 e0 e1 e2 f2
  have HFin := Lib.hid hfin
  clear hfin
  dsimp only at HFin
  generalize (((w4.setCell ⟨w.heap.size + 1 + 1, 0, none⟩ (.slice base' T'.length cap')).setCell ⟨w.heap.size + 1 + 1, 1, none⟩ (.int .i64 s.now)).setCell ⟨w.heap.size + 1 + 1, 2, none⟩ (.int .i64 s.lost)) = WF at *
  go_wp2_with fail
  exact bodyPost_ret (v := .tuple #[.pointer (some ⟨p, 0, none⟩), RN base' T'.length cap' s.now s.lost, .bool true]) (by simp [results, Tryd.results16, go_sem, c0, c1, c2]) rfl (by rw [HT'.out]; exact HFin.out)

end Go.Proofs.YtahkhecfnimdbaaDoor
