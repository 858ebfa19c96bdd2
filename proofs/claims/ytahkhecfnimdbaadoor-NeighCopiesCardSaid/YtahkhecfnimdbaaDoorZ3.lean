/- NeighCopies: the walk. -/
import Derived.Test.YtahkhecfnimdbaaDoorX1
import Derived.Test.YtahkhecfnimdbaaDoorZ2
namespace Go.Proofs.YtahkhecfnimdbaaDoor
open Go.RowKit Go.Maps

set_option maxHeartbeats 4000000 in
set_option maxRecDepth 100000 in
theorem copies_any (w : World) (hF : FB w) (la : Option Addr) (b o k c : Nat) (what face bad addr more : Nat → Int) (hla : 0 < k → la = some ⟨b, o, none⟩ ∧ b < w.heap.size) (hk : k ≤ 30) (hbd : ∀ i, ActB (what i) (face i) (bad i) (addr i) (more i)) (hl : ∀ i, i < k → ActIs w b (o + i * 5) (what i) (face i) (bad i) (addr i) (more i))
    (wt fc bd ad mr wtB fcB bdB adB mrB : Int) (hx : ActB wt fc bd ad mr) (hy : ActB wtB fcB bdB adB mrB) :
    Calls Tryd.prog 7 #[.slice la k c, actV wt fc bd ad mr, actV wtB fcB bdB adB mrB] w fun e w' => e = .returned (.bool true) ∧ Below w.heap.size w w' := by
  have t1 : decide ((30 : Int) < k) = false := by simp; omega
  have BX : Below w.heap.size w ((w.alloc (.cells #[.int .i64 wt, .int .i64 fc, .int .i64 bd, .int .u32 ad, .int .i64 mr] 33)).alloc (.cells #[.int .i64 wtB, .int .i64 fcB, .int .i64 bdB, .int .u32 adB, .int .i64 mrB] 33)) := ((Below.refl _ _).alloc (Nat.le_refl _) _).alloc (by simp) _
  have HF := Lib.hid (hF.below BX)
  have HL := Lib.hid (fun i hi => (hl i hi).below BX (hla (by omega)).2)
  have HBX := Lib.hid BX
  have HBD := Lib.hid hbd
  have HX := Lib.hid hx
  have HY := Lib.hid hy
  have hws : w.heap.size + 2 ≤ ((w.alloc (.cells #[.int .i64 wt, .int .i64 fc, .int .i64 bd, .int .u32 ad, .int .i64 mr] 33)).alloc (.cells #[.int .i64 wtB, .int .i64 fcB, .int .i64 bdB, .int .u32 adB, .int .i64 mrB] 33)).heap.size := by simp
  have x0 : ((w.alloc (.cells #[.int .i64 wt, .int .i64 fc, .int .i64 bd, .int .u32 ad, .int .i64 mr] 33)).alloc (.cells #[.int .i64 wtB, .int .i64 fcB, .int .i64 bdB, .int .u32 adB, .int .i64 mrB] 33)).cell? ⟨w.heap.size, 0, none⟩ = some (.int .i64 wt) := by simp [go_sem]
  have x1 : ((w.alloc (.cells #[.int .i64 wt, .int .i64 fc, .int .i64 bd, .int .u32 ad, .int .i64 mr] 33)).alloc (.cells #[.int .i64 wtB, .int .i64 fcB, .int .i64 bdB, .int .u32 adB, .int .i64 mrB] 33)).cell? ⟨w.heap.size, 1, none⟩ = some (.int .i64 fc) := by simp [go_sem]
  have x2 : ((w.alloc (.cells #[.int .i64 wt, .int .i64 fc, .int .i64 bd, .int .u32 ad, .int .i64 mr] 33)).alloc (.cells #[.int .i64 wtB, .int .i64 fcB, .int .i64 bdB, .int .u32 adB, .int .i64 mrB] 33)).cell? ⟨w.heap.size, 2, none⟩ = some (.int .i64 bd) := by simp [go_sem]
  have x3 : ((w.alloc (.cells #[.int .i64 wt, .int .i64 fc, .int .i64 bd, .int .u32 ad, .int .i64 mr] 33)).alloc (.cells #[.int .i64 wtB, .int .i64 fcB, .int .i64 bdB, .int .u32 adB, .int .i64 mrB] 33)).cell? ⟨w.heap.size, 3, none⟩ = some (.int .u32 ad) := by simp [go_sem]
  have x4 : ((w.alloc (.cells #[.int .i64 wt, .int .i64 fc, .int .i64 bd, .int .u32 ad, .int .i64 mr] 33)).alloc (.cells #[.int .i64 wtB, .int .i64 fcB, .int .i64 bdB, .int .u32 adB, .int .i64 mrB] 33)).cell? ⟨w.heap.size, 4, none⟩ = some (.int .i64 mr) := by simp [go_sem]
  have y0 : ((w.alloc (.cells #[.int .i64 wt, .int .i64 fc, .int .i64 bd, .int .u32 ad, .int .i64 mr] 33)).alloc (.cells #[.int .i64 wtB, .int .i64 fcB, .int .i64 bdB, .int .u32 adB, .int .i64 mrB] 33)).cell? ⟨w.heap.size + 1, 0, none⟩ = some (.int .i64 wtB) := by simp [go_sem]
  have y1 : ((w.alloc (.cells #[.int .i64 wt, .int .i64 fc, .int .i64 bd, .int .u32 ad, .int .i64 mr] 33)).alloc (.cells #[.int .i64 wtB, .int .i64 fcB, .int .i64 bdB, .int .u32 adB, .int .i64 mrB] 33)).cell? ⟨w.heap.size + 1, 1, none⟩ = some (.int .i64 fcB) := by simp [go_sem]
  have y2 : ((w.alloc (.cells #[.int .i64 wt, .int .i64 fc, .int .i64 bd, .int .u32 ad, .int .i64 mr] 33)).alloc (.cells #[.int .i64 wtB, .int .i64 fcB, .int .i64 bdB, .int .u32 adB, .int .i64 mrB] 33)).cell? ⟨w.heap.size + 1, 2, none⟩ = some (.int .i64 bdB) := by simp [go_sem]
  have y3 : ((w.alloc (.cells #[.int .i64 wt, .int .i64 fc, .int .i64 bd, .int .u32 ad, .int .i64 mr] 33)).alloc (.cells #[.int .i64 wtB, .int .i64 fcB, .int .i64 bdB, .int .u32 adB, .int .i64 mrB] 33)).cell? ⟨w.heap.size + 1, 3, none⟩ = some (.int .u32 adB) := by simp [go_sem]
  have y4 : ((w.alloc (.cells #[.int .i64 wt, .int .i64 fc, .int .i64 bd, .int .u32 ad, .int .i64 mr] 33)).alloc (.cells #[.int .i64 wtB, .int .i64 fcB, .int .i64 bdB, .int .u32 adB, .int .i64 mrB] 33)).cell? ⟨w.heap.size + 1, 4, none⟩ = some (.int .i64 mrB) := by simp [go_sem]
  have HXc := Lib.hid (And.intro x0 (And.intro x1 (And.intro x2 (And.intro x3 x4))))
  have HYc := Lib.hid (And.intro y0 (And.intro y1 (And.intro y2 (And.intro y3 y4))))
  clear hF hl hbd hx hy BX x0 x1 x2 x3 x4 y0 y1 y2 y3 y4
  go_enter Tryd.func7, Tryd.ntmps7
  go_upto_block 0 with (go_at_call 9; refine (New_nw _ HF.out).mono ?_; rintro e w1 ⟨⟨p, m, rfl, n0, hp, hm⟩, hb⟩; have N0 := Lib.hid n0; have HP := Lib.hid hp; have HM := Lib.hid hm; have HB := Lib.hid hb; clear n0 hp hm hb)
  have hBW := BW.first N0.out HB.out HP.out HM.out
  generalize (w.alloc (.cells #[.int .i64 wt, .int .i64 fc, .int .i64 bd, .int .u32 ad, .int .i64 mr] 33)).alloc (.cells #[.int .i64 wtB, .int .i64 fcB, .int .i64 bdB, .int .u32 adB, .int .i64 mrB] 33) = W0 at *
  have HBW := Lib.hid hBW
  clear hBW N0 HP HM HB
  generalize w1.alloc rnNil = W1 at *
  generalize w1.heap.size = B at *
  go_wp2_with fail
  go_loopg [7, 9, 10] k (aRel W0 B k)
  case atStart => exact ⟨0, p, m, _, _, _, rfl, by omega, rfl, rfl, rfl, HBW.out⟩
  case round =>
    clear HBW
    obtain ⟨i, p, m, s, base, cap, hn, hik, rfl, rfl, rfl, hw⟩ := hrel
    have Hn := Lib.hid hn
    have HWI := Lib.hid hw
    clear hn hw
    by_cases hlt : i < k
    · obtain ⟨rfl, hbw⟩ := hla (by omega)
      have hbw' : b < W0.heap.size := by omega
      obtain ⟨a0, a1, a2, a3, a4⟩ := (HL.out i hlt).below HWI.out.bl hbw'
      have hB := HBD.out i
      have hb1 := hB.b.2
      obtain ⟨d0, d1⟩ := hB.a
      generalize hwt : what i = wt' at *
      generalize hfc : face i = fc' at *
      generalize hbd : bad i = bd' at *
      generalize hae : addr i = ad' at *
      generalize hmr : more i = mr' at *
      clear hwt hfc hbd hae hmr hB
      have BD := (Below.refl wr.heap.size wr).drew
      have HA := Lib.hid (act_any p m s base cap wt' fc' bd' ad' mr' wr.drew (HWI.out.nw.below BD) HWI.out.ord (HWI.out.rw.below BD) d0 d1 hb1)
      clear BD
      go_upto_block 1 with fail
      have c0 := HWI.out.c0
      have c1 := HWI.out.c1
      have c2 := HWI.out.c2
      have hbB : b ≠ B := by have := HWI.out.wB; omega
      have hBb : B ≠ b := hbB.symm
      have i1 : (0 : Int) ≤ (i : Int) := by omega
      have i2 : (i : Int) < (k : Int) := by omega
      go_cut [7, 9] (fun v7 v9 wx => ∃ (p' m' : Nat) (s' : St) (base' : Option Addr) (cap' : Nat), v7 = .pointer (some ⟨p', 0, none⟩) ∧ v9 = .bool true ∧ BW W0 wx B p' m' s' base' cap')
      case first => as_aux_lemma =>
        have hpB := HWI.out.pB
        have hmB := HWI.out.mB
        go_upto_region 8 with fail
        go_region_with ((((with_reducible refine HA.out.mono ?_); rintro e w2 ⟨⟨p', m', base', cap', rfl, hn, hr, hp, hk⟩, hO⟩; have hk3 := (Kp.of_below ((Below.refl _ wr).drew)).trans hk; have e0 := hk3.cell c0 (by simp; omega) (by simp; omega); have e1 := hk3.cell c1 (by simp; omega) (by simp; omega); have e2 := hk3.cell c2 (by simp; omega) (by simp; omega); have hbx := (hk3.block B HWI.out.lt hpB.symm hmB.symm).trans HWI.out.box; have f2 : ∀ o, w2.frozen? ⟨B, o, none⟩ = false := (fun o => by simp [World.frozen?, hbx]); have HST := Lib.hid (HWI.out.step (cap' := cap') hO hn hr hp hk3); clear hn hr hp hk hk3 hO hbx)))
        all_goals
          clear a0 a1 a2 a3 a4 c0 c1 c2 e0 e1 e2 f2
          generalize (((w2.setCell ⟨B, 0, none⟩ (.slice base' (actS s wt' fc' bd' ad' mr').T.length cap')).setCell ⟨B, 1, none⟩ (.int .i64 (actS s wt' fc' bd' ad' mr').now)).setCell ⟨B, 2, none⟩ (.int .i64 (actS s wt' fc' bd' ad' mr').lost)) = WF at *
          go_wp2_with fail
          go_meet
          exact ⟨p', m', _, base', cap', rfl, rfl, HST.out⟩
      case rest =>
        obtain ⟨p', m', s', base', cap', rfl, rfl, hst⟩ := hcut
        have HST := Lib.hid hst
        clear hst a0 a1 a2 a3 a4 c0 c1 c2
        go_wp2_with fail
        go_roundg (k - (i + 1))
        case measure => have := Hn.out; omega
        case rel => exact ⟨i + 1, p', m', s', base', cap', rfl, by omega, rfl, rfl, by go_num, HST.out⟩
    · obtain rfl : i = k := by omega
      have hlen := HWI.out.nw.len
      have hpl := HWI.out.nw.ns.plt
      have hml := HWI.out.nw.ns.mlt
      have hBl := HWI.out.lt
      have hpB := HWI.out.pB
      have hmB := HWI.out.mB
      have hwp := HWI.out.wp
      have hwm := HWI.out.wm
      have hwB := HWI.out.wB
      have hwr := HWI.out.bl.size
      have HCp := Lib.hid (Copy_any p m s wr HWI.out.nw)
      go_upto_region 10 with (go_at_call 23; refine HCp.out.mono ?_; rintro e w3 ⟨⟨p2, m2, rfl, hn2, hp2, hm2⟩, hb3⟩; have HN2 := Lib.hid hn2; have HB3 := Lib.hid hb3; clear hn2 hb3)
      have hw3 := HWI.out.below HB3.out
      have h3s := HB3.out.size
      have hp2l := HN2.out.ns.plt
      have hm2l := HN2.out.ns.mlt
      have c0 := hw3.c0
      have c1 := hw3.c1
      have c2 := hw3.c2
      have x0 := cell_below hw3.bl HXc.out.1
      have x1 := cell_below hw3.bl HXc.out.2.1
      have x2 := cell_below hw3.bl HXc.out.2.2.1
      have x3 := cell_below hw3.bl HXc.out.2.2.2.1
      have x4 := cell_below hw3.bl HXc.out.2.2.2.2
      have HW3 := Lib.hid hw3
      have hA := act_any p m s base cap wt fc bd ad mr w3 hw3.nw hw3.ord hw3.rw HX.out.a.1 HX.out.a.2 HX.out.b.2
      generalize hs1 : actS s wt fc bd ad mr = s1 at *
      have HA := Lib.hid hA
      clear hA hw3 hs1 HCp HWI
      go_upto_region 11 with (go_at_call 16; refine HA.out.mono ?_; rintro e w4 ⟨⟨p1, m1, base1, cap1, rfl, hn, hr, hp1, hk4⟩, hO1⟩; have HK4 := Lib.hid hk4; have HN4 := Lib.hid hn; have HR4 := Lib.hid hr; have HO1 := Lib.hid hO1; clear hn hr hk4 hO1)
      have h4s := HK4.out.size
      have B5 : Below w4.heap.size w4 (w4.alloc (.cells #[.slice base1 s1.T.length cap1, .int .i64 s1.now, .int .i64 s1.lost] 47)) := below_k _ _
      have hB4 := below_kp HW3.out.bl hwp hwm HK4.out
      have HB5 := Lib.hid (bthen hB4 B5)
      have HN5 := Lib.hid (HN4.out.below B5)
      have HR5 := Lib.hid (HR4.out.below B5)
      have z0 := HN2.out.ns.p0 HN2.out.fb
      have zp := HW3.out.nw.ns.p0 HW3.out.nw.fb
      have zm := HW3.out.nw.ns.m0 HW3.out.nw.fb
      have hn25 : NW w4 p2 m2 s := HN2.out.of_blocks (HK4.out.block p2 hp2l (by omega) (by omega)) (HK4.out.block m2 hm2l (by omega) (by omega)) (HK4.out.block 0 (by omega) (by omega) (by omega))
      have HN25 := Lib.hid (hn25.below B5)
      have HR25 := Lib.hid ((HW3.out.rw.kp HW3.out.nw.ns HK4.out).below B5)
      have d0 := cell_below B5 (HK4.out.cell c0 (by simp; omega) (by simp; omega))
      have d1 := cell_below B5 (HK4.out.cell c1 (by simp; omega) (by simp; omega))
      have d2 := cell_below B5 (HK4.out.cell c2 (by simp; omega) (by simp; omega))
      have v0 : (w4.alloc (.cells #[.slice base1 s1.T.length cap1, .int .i64 s1.now, .int .i64 s1.lost] 47)).cell? ⟨w4.heap.size, 0, none⟩ = some (.slice base1 s1.T.length cap1) := by simp [go_sem]
      have v1 : (w4.alloc (.cells #[.slice base1 s1.T.length cap1, .int .i64 s1.now, .int .i64 s1.lost] 47)).cell? ⟨w4.heap.size, 1, none⟩ = some (.int .i64 s1.now) := by simp [go_sem]
      have v2 : (w4.alloc (.cells #[.slice base1 s1.T.length cap1, .int .i64 s1.now, .int .i64 s1.lost] 47)).cell? ⟨w4.heap.size, 2, none⟩ = some (.int .i64 s1.lost) := by simp [go_sem]
      have h5s : (w4.alloc (.cells #[.slice base1 s1.T.length cap1, .int .i64 s1.now, .int .i64 s1.lost] 47)).heap.size = w4.heap.size + 1 := by simp
      clear c0 c1 c2 x0 x1 x2 x3 x4 B5 hn25 HN4 HR4 HA
      generalize w4.alloc (.cells #[.slice base1 s1.T.length cap1, .int .i64 s1.now, .int .i64 s1.lost] 47) = W5 at *
      generalize w4.heap.size = X at *
      have y0 := cell_below HB5.out HYc.out.1
      have y1 := cell_below HB5.out HYc.out.2.1
      have y2 := cell_below HB5.out HYc.out.2.2.1
      have y3 := cell_below HB5.out HYc.out.2.2.2.1
      have y4 := cell_below HB5.out HYc.out.2.2.2.2
      have hA := act_any p2 m2 s base cap wtB fcB bdB adB mrB W5 HN25.out HW3.out.ord HR25.out HY.out.a.1 HY.out.a.2 HY.out.b.2
      generalize hs2 : actS s wtB fcB bdB adB mrB = s2 at *
      have HA := Lib.hid hA
      clear hA hs2 hB4
      go_upto_region 12 with (go_at_call 16; refine HA.out.mono ?_; rintro e w6 ⟨⟨p3, m3, base2, cap2, rfl, hn, hr, hp3, hk6⟩, hO2⟩; have HK6 := Lib.hid hk6; have HN6 := Lib.hid hn; have HR6 := Lib.hid hr; have HO2 := Lib.hid hO2; clear hn hr hk6 hO2)
      have h6s := HK6.out.size
      have B7 : Below w6.heap.size w6 (w6.alloc (.cells #[.slice base2 s2.T.length cap2, .int .i64 s2.now, .int .i64 s2.lost] 47)) := below_k _ _
      have hB6 := below_kp HB5.out (show W0.heap.size ≤ p2 by omega) (show W0.heap.size ≤ m2 by omega) HK6.out
      have HB7 := Lib.hid (bthen hB6 B7)
      have p1l := HN5.out.ns.plt
      have m1l := HN5.out.ns.mlt
      have q0 := HN25.out.ns.p0 HN25.out.fb
      have qm := HN25.out.ns.m0 HN25.out.fb
      have hn17 : NW w6 p1 m1 s1 := HN5.out.of_blocks (HK6.out.block p1 p1l (by omega) (by omega)) (HK6.out.block m1 m1l (by omega) (by omega)) (HK6.out.block 0 (by omega) (by omega) (by omega))
      have HN17 := Lib.hid (hn17.below B7)
      have HR17 := Lib.hid ((HR5.out.kp HN25.out.ns HK6.out).below B7)
      have HN37 := Lib.hid (HN6.out.below B7)
      have HR37 := Lib.hid (HR6.out.below B7)
      have u0 := cell_below B7 (HK6.out.cell v0 (by simp; omega) (by simp; omega))
      have u1 := cell_below B7 (HK6.out.cell v1 (by simp; omega) (by simp; omega))
      have u2 := cell_below B7 (HK6.out.cell v2 (by simp; omega) (by simp; omega))
      have r0 : (w6.alloc (.cells #[.slice base2 s2.T.length cap2, .int .i64 s2.now, .int .i64 s2.lost] 47)).cell? ⟨w6.heap.size, 0, none⟩ = some (.slice base2 s2.T.length cap2) := by simp [go_sem]
      have r1 : (w6.alloc (.cells #[.slice base2 s2.T.length cap2, .int .i64 s2.now, .int .i64 s2.lost] 47)).cell? ⟨w6.heap.size, 1, none⟩ = some (.int .i64 s2.now) := by simp [go_sem]
      have r2 : (w6.alloc (.cells #[.slice base2 s2.T.length cap2, .int .i64 s2.now, .int .i64 s2.lost] 47)).cell? ⟨w6.heap.size, 2, none⟩ = some (.int .i64 s2.lost) := by simp [go_sem]
      clear v0 v1 v2 y0 y1 y2 y3 y4 d0 d1 d2 B7 hn17 hB6 HA
      generalize w6.alloc (.cells #[.slice base2 s2.T.length cap2, .int .i64 s2.now, .int .i64 s2.lost] 47) = W7 at *
      generalize w6.heap.size = Y at *
      have hl1 := HN17.out.len
      have HSm := Lib.hid (rSame_any base1 base2 cap1 cap2 s1 s2 W7 HR17.out HR37.out (by omega))
      have HSa := Lib.hid (fun W (hW : Below W7.heap.size W7 W) => Same_any p1 m1 p3 m3 s1 s2 W (HN17.out.below hW) (HN37.out.below hW) HO1.out HO2.out)
      have HSb := Lib.hid (fun W (hW : Below W7.heap.size W7 W) => by have := Same_any p3 m3 p1 m1 s2 s1 W (HN37.out.below hW) (HN17.out.below hW) HO2.out HO1.out; rw [sameSt_comm] at this; exact this)
      generalize sameSt s1 s2 = bb at *
      have tb : (bb == bb) = true := by simp
      clear hl1
      go_upto_region 13 with (go_at_call 25; refine HSm.out.mono ?_; rintro e w8 ⟨rfl, hb8⟩; have u0 := cell_below hb8 u0; have u1 := cell_below hb8 u1; have u2 := cell_below hb8 u2; have r0 := cell_below hb8 r0; have r1 := cell_below hb8 r1; have r2 := cell_below hb8 r2; have HB8 := Lib.hid hb8; clear hb8)
      have HI1 := Lib.hid (fun W (hW : Below W7.heap.size W7 W) => is_any p1 m1 s1 base1 cap1 W (HN17.out.below hW) HO1.out (HR17.out.below hW))
      have HI2 := Lib.hid (fun W (hW : Below W7.heap.size W7 W) => is_any p3 m3 s2 base2 cap2 W (HN37.out.below hW) HO2.out (HR37.out.below hW))
      go_wp2_with (first
        | (go_at_call 20; with_reducible refine (HI1.out _ HB8.out).mono ?_; rintro e w9 ⟨rfl, hb9⟩; have r0 := cell_below hb9 r0; have r1 := cell_below hb9 r1; have r2 := cell_below hb9 r2; have HB9 := Lib.hid (bthen HB8.out hb9); clear hb9)
        | (go_at_call 20; with_reducible refine (HI2.out _ HB9.out).mono ?_; rintro e w10 ⟨rfl, hb10⟩; have HB10 := Lib.hid (bthen HB9.out hb10); clear hb10)
        | (go_at_call 24; with_reducible refine (HSa.out _ HB10.out).mono ?_; rintro e w11 ⟨rfl, hb11⟩; have HB11 := Lib.hid (bthen HB10.out hb11); clear hb11)
        | (go_at_call 24; with_reducible refine (HSb.out _ HB11.out).mono ?_; rintro e w12 ⟨rfl, hb12⟩; have HB12 := Lib.hid (bthen HB11.out hb12); clear hb12)
        | (go_at_call 8; with_reducible refine (works_any _ (HN17.out.fb.below HB12.out)).mono ?_; rintro e w13 ⟨rfl, hb13⟩; have HB13 := Lib.hid (bthen HB12.out hb13); clear hb13)
        | fail)
      go_ret
      exact ⟨rfl, bthen HBX.out (bthen HB7.out HB13.out)⟩

set_option maxHeartbeats 4000000 in
set_option maxRecDepth 100000 in
theorem copies_more (w : World) (hF : FB w) (base : Option Addr) (k c : Nat) (hk : 30 < k) (hm : k ≤ 9223372036854775807) (wt fc bd ad mr wtB fcB bdB adB mrB : Int) :
    Calls Tryd.prog 7 #[.slice base k c, actV wt fc bd ad mr, actV wtB fcB bdB adB mrB] w fun e w' => e = .returned (.bool true) ∧ Below w.heap.size w w' := by
  have t1 : decide ((30 : Int) < k) = true := by simp; omega
  have BX : Below w.heap.size w ((w.alloc (.cells #[.int .i64 wt, .int .i64 fc, .int .i64 bd, .int .u32 ad, .int .i64 mr] 33)).alloc (.cells #[.int .i64 wtB, .int .i64 fcB, .int .i64 bdB, .int .u32 adB, .int .i64 mrB] 33)) := ((Below.refl _ _).alloc (Nat.le_refl _) _).alloc (by simp) _
  have HF := Lib.hid (hF.below BX)
  have HBX := Lib.hid BX
  clear hF BX
  go_enter Tryd.func7, Tryd.ntmps7
  go_wp2_with (go_at_call 8; refine (works_any _ HF.out).mono ?_; rintro e w9 ⟨rfl, hb9⟩; have HB9 := Lib.hid hb9; clear hb9)
  go_ret
  exact ⟨rfl, bthen HBX.out HB9.out⟩

theorem NeighCopies_all (w : World) (hF : FB w) (base : Option Addr) (k c b o : Nat) (what face bad addr more : Nat → Int) (h : ActsIn w base k b o what face bad addr more) (hm : k ≤ 9223372036854775807) (wt fc bd ad mr wtB fcB bdB adB mrB : Int) (hx : ActB wt fc bd ad mr) (hy : ActB wtB fcB bdB adB mrB) :
    Calls Tryd.prog 7 #[.slice base k c, actV wt fc bd ad mr, actV wtB fcB bdB adB mrB] w fun e w' => e = .returned (.bool true) ∧ Below w.heap.size w w' := by
  by_cases h1 : 30 < k
  · exact copies_more w hF base k c h1 hm wt fc bd ad mr wtB fcB bdB adB mrB
  · exact copies_any w hF base b o k c what face bad addr more h.at' (by omega) h.bd h.is wt fc bd ad mr wtB fcB bdB adB mrB hx hy
end Go.Proofs.YtahkhecfnimdbaaDoor
