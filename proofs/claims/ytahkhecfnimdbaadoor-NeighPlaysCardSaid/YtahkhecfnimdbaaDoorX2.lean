/- NeighPlays: the walk. -/
import Derived.Test.YtahkhecfnimdbaaDoorX1
import Derived.Test.YtahkhecfnimdbaaDoorW5
namespace Go.Proofs.YtahkhecfnimdbaaDoor
open Go.RowKit Go.Maps

def pRel (W0 : World) (B k : Nat) (n : Nat) (v3 v5 : Value) (wr : World) : Prop :=
  ∃ (i p m : Nat) (s : St) (base : Option Addr) (cap : Nat), n = k - i ∧ i ≤ k ∧ v3 = .pointer (some ⟨p, 0, none⟩) ∧ v5 = .int .i64 i ∧ BW W0 wr B p m s base cap

/-- behind the call by both: what it tells, in a box of its own -/
def R7 (wr : World) (B p m : Nat) (s' : St) (v6 v7 v8 : Value) (wx : World) : Prop :=
  ∃ (p' m' : Nat) (base' : Option Addr) (cap' X : Nat), v6 = .pointer (some ⟨p', 0, none⟩) ∧ v7 = .pointer (some ⟨X, 0, none⟩) ∧ v8 = .bool true ∧ wx.heap[X]? = some (.cells #[.slice base' s'.T.length cap', .int .i64 s'.now, .int .i64 s'.lost] 47 (0, 0)) ∧ X ≠ B ∧
    NW wx p' m' s' ∧ RW wx base' s' ∧ (p' = p ∧ m' = m ∨ wr.heap.size ≤ p' ∧ wr.heap.size ≤ m') ∧ Kp p m wr wx ∧ OrdT s'.T
theorem R7.early {wr w2 : World} {B p m p' m' : Nat} {s' : St} {base' : Option Addr} {cap' : Nat} (hB : B < wr.heap.size) (hpl : p < wr.heap.size) (hml : m < wr.heap.size) (hn : NW w2 p' m' s') (hr : RW w2 base' s') (hp : p' = p ∧ m' = m ∨ wr.heap.size + 1 ≤ p' ∧ wr.heap.size + 1 ≤ m') (hk : Kp p m (wr.alloc rnNil) w2) (hO : OrdT s'.T) :
    R7 wr B p m s' (.pointer (some ⟨p', 0, none⟩)) (.pointer (some ⟨wr.heap.size, 0, none⟩)) (.bool true) (((w2.setCell ⟨wr.heap.size, 0, none⟩ (.slice base' s'.T.length cap')).setCell ⟨wr.heap.size, 1, none⟩ (.int .i64 s'.now)).setCell ⟨wr.heap.size, 2, none⟩ (.int .i64 s'.lost)) := by
  have hX := (hk.block wr.heap.size (by simp) (by omega) (by omega)).trans (World.alloc_heap_new wr rnNil)
  have hz := hn.ns.p0 hn.fb
  have p1 : p' ≠ wr.heap.size := by omega
  have m1 : m' ≠ wr.heap.size := by omega
  have z0 : 0 ≠ wr.heap.size := by omega
  refine ⟨p', m', base', cap', wr.heap.size, rfl, rfl, rfl, box3_out hX _ _ _, by omega, ?_, ?_, by omega, ?_, hO⟩
  · exact hn.of_blocks (box3_other _ _ _ _ _ p1) (box3_other _ _ _ _ _ m1) (box3_other _ _ _ _ _ z0)
  · obtain ⟨g, hS⟩ := hr
    exact ⟨g, hS.other hX (by rw [set3_size]; exact Nat.le_refl _) (fun j hj => box3_other _ _ _ _ _ hj)⟩
  · exact kp_set3 ((Kp.of_below (below_k _ _)).trans hk) (Nat.le_refl _) _ _ _
theorem R7.late {wr w2 : World} {B p m p' m' : Nat} {s' : St} {base' : Option Addr} {cap' : Nat} (hB : B < wr.heap.size) (hn : NW w2 p' m' s') (hr : RW w2 base' s') (hp : p' = p ∧ m' = m ∨ wr.heap.size ≤ p' ∧ wr.heap.size ≤ m') (hk : Kp p m wr w2) (hO : OrdT s'.T) :
    R7 wr B p m s' (.pointer (some ⟨p', 0, none⟩)) (.pointer (some ⟨w2.heap.size, 0, none⟩)) (.bool true) (w2.alloc (.cells #[.slice base' s'.T.length cap', .int .i64 s'.now, .int .i64 s'.lost] 47)) := by
  have := hk.size
  exact ⟨p', m', base', cap', w2.heap.size, rfl, rfl, rfl, World.alloc_heap_new _ _, by omega, hn.below (below_k _ _), hr.below (below_k _ _), hp, hk.trans (Kp.of_below (below_k _ _)), hO⟩

/-- behind Get: what it tells, in a box of its own -/
def R9 (W4 : World) (r : Rec) (hs : Bool) (v9 v10 : Value) (wx : World) : Prop :=
  ∃ X : Nat, v9 = .pointer (some ⟨X, 0, none⟩) ∧ v10 = .bool hs ∧ wx.heap[X]? = some (.cells #[.int .i64 r.face, .int .u32 r.addr, .int .i64 r.last, .int .i64 r.good, .int .i64 r.bad] 40 (0, 0)) ∧ Below W4.heap.size W4 wx
abbrev z40 : Obj := .cells #[.int .i64 0, .int .u32 0, .int .i64 0, .int .i64 0, .int .i64 0] 40
theorem R9.late {W4 w5 : World} (r : Rec) (hs : Bool) (hb : Below W4.heap.size W4 w5) : R9 W4 r hs (.pointer (some ⟨w5.heap.size, 0, none⟩)) (.bool hs) (w5.alloc (.cells #[.int .i64 r.face, .int .u32 r.addr, .int .i64 r.last, .int .i64 r.good, .int .i64 r.bad] 40)) :=
  ⟨_, rfl, rfl, World.alloc_heap_new _ _, bthen hb (below_k _ _)⟩
theorem R9.early {W4 w5 : World} (r : Rec) (hs : Bool) (hb : Below (W4.alloc z40).heap.size (W4.alloc z40) w5) :
    R9 W4 r hs (.pointer (some ⟨W4.heap.size, 0, none⟩)) (.bool hs) (((((w5.setCell ⟨W4.heap.size, 0, none⟩ (.int .i64 r.face)).setCell ⟨W4.heap.size, 1, none⟩ (.int .u32 r.addr)).setCell ⟨W4.heap.size, 2, none⟩ (.int .i64 r.last)).setCell ⟨W4.heap.size, 3, none⟩ (.int .i64 r.good)).setCell ⟨W4.heap.size, 4, none⟩ (.int .i64 r.bad)) := by
  have hX := (hb.block W4.heap.size (by simp)).trans (World.alloc_heap_new W4 z40)
  refine ⟨W4.heap.size, rfl, rfl, heap_setAt (heap_setAt (heap_setAt (heap_setAt (heap_setAt hX 0 _) 1 _) 2 _) 3 _) 4 _, ?_⟩
  have h1 := bthen (below_k W4 z40) hb
  exact ((((h1.setCell (p := ⟨W4.heap.size, 0, none⟩) (Nat.le_refl _) _).setCell (p := ⟨W4.heap.size, 1, none⟩) (Nat.le_refl _) _).setCell (p := ⟨W4.heap.size, 2, none⟩) (Nat.le_refl _) _).setCell (p := ⟨W4.heap.size, 3, none⟩) (Nat.le_refl _) _).setCell (p := ⟨W4.heap.size, 4, none⟩) (Nat.le_refl _) _

set_option maxHeartbeats 4000000 in
set_option maxRecDepth 100000 in
theorem plays_any (w : World) (hF : FB w) (la : Option Addr) (b o k c : Nat) (what face bad addr more : Nat → Int) (hla : 0 < k → la = some ⟨b, o, none⟩ ∧ b < w.heap.size) (hk : k ≤ 50) (hbd : ∀ i, ActB (what i) (face i) (bad i) (addr i) (more i)) (hl : ∀ i, i < k → ActIs w b (o + i * 5) (what i) (face i) (bad i) (addr i) (more i)) :
    Calls Tryd.prog 5 #[.slice la k c] w fun e w' => e = .returned (.bool true) ∧ Below w.heap.size w w' := by
  have t1 : decide ((50 : Int) < k) = false := by simp; omega
  have HF := Lib.hid hF
  have HL := Lib.hid hl
  have HBD := Lib.hid hbd
  clear hF hl hbd
  go_enter Tryd.func5, Tryd.ntmps5
  go_upto_block 0 with (go_at_call 9; refine (New_nw _ HF.out).mono ?_; rintro e w1 ⟨⟨p, m, rfl, n0, hp, hm⟩, hb⟩; have N0 := Lib.hid n0; have HP := Lib.hid hp; have HM := Lib.hid hm; have HB := Lib.hid hb; clear n0 hp hm hb)
  have hBW := BW.first N0.out HB.out HP.out HM.out
  have HBW := Lib.hid hBW
  clear hBW N0 HP HM HB
  generalize w1.alloc rnNil = W1 at *
  generalize w1.heap.size = B at *
  go_wp2_with fail
  go_loopg [3, 5] k (pRel w B k)
  case atStart => exact ⟨0, p, m, _, _, _, rfl, by omega, rfl, rfl, HBW.out⟩
  case round =>
    clear HBW
    obtain ⟨i, p, m, s, base, cap, hn, hik, rfl, rfl, hw⟩ := hrel
    have Hn := Lib.hid hn
    have HWI := Lib.hid hw
    clear hn hw
    by_cases hlt : i < k
    · obtain ⟨rfl, hbw⟩ := hla (by omega)
      obtain ⟨a0, a1, a2, a3, a4⟩ := (HL.out i hlt).below HWI.out.bl hbw
      have hB := HBD.out i
      have hb1 := hB.b.2
      have hKB : KB (face i) (addr i) := ⟨hB.f, hB.a⟩
      obtain ⟨d0, d1⟩ := hB.a
      generalize hwt : what i = wt' at *
      generalize hfc : face i = fc' at *
      generalize hbd : bad i = bd' at *
      generalize hae : addr i = ad' at *
      generalize hmr : more i = mr' at *
      have HA1 := Lib.hid (show w.cell? ⟨b, o + i * 5 + 1, none⟩ = some (.int .i64 fc') by rw [← hfc]; exact (HL.out i hlt).c1)
      have HA3 := Lib.hid (show w.cell? ⟨b, o + i * 5 + 3, none⟩ = some (.int .u32 ad') by rw [← hae]; exact (HL.out i hlt).c3)
      clear hwt hfc hbd hae hmr hB
      have BD := (Below.refl wr.heap.size wr).drew
      have BD2 : Below wr.heap.size wr (wr.alloc rnNil).drew := (below_k _ _).drew
      have HA := Lib.hid (act_any p m s base cap wt' fc' bd' ad' mr' wr.drew (HWI.out.nw.below BD) HWI.out.ord (HWI.out.rw.below BD) d0 d1 hb1)
      have HA2 := Lib.hid (act_any p m s base cap wt' fc' bd' ad' mr' (wr.alloc rnNil).drew (HWI.out.nw.below BD2) HWI.out.ord (HWI.out.rw.below BD2) d0 d1 hb1)
      generalize hs' : actS s wt' fc' bd' ad' mr' = s' at *
      clear BD BD2 hs'
      have hpB := HWI.out.pB
      have hmB := HWI.out.mB
      have hwp := HWI.out.wp
      have hwm := HWI.out.wm
      have hBl := HWI.out.lt
      have hpl := HWI.out.nw.ns.plt
      have hml := HWI.out.nw.ns.mlt
      have hbB : b ≠ B := by have := HWI.out.wB; omega
      have hBb : B ≠ b := hbB.symm
      have i1 : (0 : Int) ≤ (i : Int) := by omega
      have i2 : (i : Int) < (k : Int) := by omega
      go_upto_region 7 with fail
      go_cut [6, 7, 8] (R7 wr B p m s')
      case first => as_aux_lemma =>
        have c0 := HWI.out.c0
        have c1 := HWI.out.c1
        have c2 := HWI.out.c2
        have x1 : wr.heap.size ≠ B := by omega
        have x2 : B ≠ wr.heap.size := by omega
        have hws := HWI.out.bl.size
        have x3 : wr.heap.size ≠ b := by omega
        have x4 : b ≠ wr.heap.size := by omega
        have x5 : b < wr.heap.size := by omega
        go_region_held3 (fun w' => w'.cell? ⟨b, o + i * 5, none⟩ = some (.int .i64 wt') ∧ w'.cell? ⟨b, o + i * 5 + 1, none⟩ = some (.int .i64 fc') ∧ w'.cell? ⟨b, o + i * 5 + 2, none⟩ = some (.int .i64 bd') ∧ w'.cell? ⟨b, o + i * 5 + 3, none⟩ = some (.int .u32 ad') ∧ w'.cell? ⟨b, o + i * 5 + 4, none⟩ = some (.int .i64 mr') ∧ w'.cell? ⟨B, 0, none⟩ = some (.slice base s.T.length cap) ∧ w'.cell? ⟨B, 1, none⟩ = some (.int .i64 s.now) ∧ w'.cell? ⟨B, 2, none⟩ = some (.int .i64 s.lost))
          (go_keep)
          (first
            | ((with_reducible refine HA.out.mono ?_); rintro e w2 ⟨⟨p', m', base', cap', rfl, hn, hr, hp, hk⟩, hO⟩; have hk3 := (Kp.of_below ((Below.refl _ wr).drew)).trans hk; have c0 := hk3.cell c0 (by simp; omega) (by simp; omega); have c1 := hk3.cell c1 (by simp; omega) (by simp; omega); have c2 := hk3.cell c2 (by simp; omega) (by simp; omega); have a0 := hk3.cell a0 (by simp; omega) (by simp; omega); have a1 := hk3.cell a1 (by simp; omega) (by simp; omega); have a2 := hk3.cell a2 (by simp; omega) (by simp; omega); have a3 := hk3.cell a3 (by simp; omega) (by simp; omega); have a4 := hk3.cell a4 (by simp; omega) (by simp; omega); have HR7 := Lib.hid (R7.late (cap' := cap') hBl hn hr hp hk3 hO); clear hn hr hp hk hk3 hO)
            | ((with_reducible refine HA2.out.mono ?_); rintro e w2 ⟨⟨p', m', base', cap', rfl, hn, hr, hp, hk⟩, hO⟩; have hk3 := (Kp.of_below ((Below.refl _ (wr.alloc rnNil)).drew)).trans hk; have c0 := hk3.cell (cell_below (below_k wr rnNil) c0) (by simp; omega) (by simp; omega); have c1 := hk3.cell (cell_below (below_k wr rnNil) c1) (by simp; omega) (by simp; omega); have c2 := hk3.cell (cell_below (below_k wr rnNil) c2) (by simp; omega) (by simp; omega); have a0 := hk3.cell (cell_below (below_k wr rnNil) a0) (by simp; omega) (by simp; omega); have a1 := hk3.cell (cell_below (below_k wr rnNil) a1) (by simp; omega) (by simp; omega); have a2 := hk3.cell (cell_below (below_k wr rnNil) a2) (by simp; omega) (by simp; omega); have a3 := hk3.cell (cell_below (below_k wr rnNil) a3) (by simp; omega) (by simp; omega); have a4 := hk3.cell (cell_below (below_k wr rnNil) a4) (by simp; omega) (by simp; omega); have hX := (hk3.block wr.heap.size (by simp) (by omega) (by omega)).trans (World.alloc_heap_new wr rnNil); have e0 : w2.cell? ⟨wr.heap.size, 0, none⟩ = some (.slice none 0 0) := (by simp [World.cell?, hX]); have e1 : w2.cell? ⟨wr.heap.size, 1, none⟩ = some (.int .i64 0) := (by simp [World.cell?, hX]); have e2 : w2.cell? ⟨wr.heap.size, 2, none⟩ = some (.int .i64 0) := (by simp [World.cell?, hX]); have f2 : ∀ o, w2.frozen? ⟨wr.heap.size, o, none⟩ = false := (fun o => by simp [World.frozen?, hX]); have HR7 := Lib.hid (R7.early (cap' := cap') hBl hpl hml hn hr (by simpa using hp) hk3 hO); clear hn hr hp hk hk3 hO hX))
        all_goals (clear c0 c1 c2 a0 a1 a2 a3 a4; go_wp2_with fail; go_meet; exact HR7.out)
      case rest =>
        obtain ⟨p', m', base', cap', X, rfl, rfl, rfl, hX, hXB, hn7, hr7, hp7, hk7, hO7⟩ := hcut
        have y0 : wc.cell? ⟨X, 0, none⟩ = some (.slice base' s'.T.length cap') := by simp [World.cell?, hX]
        have y1 : wc.cell? ⟨X, 1, none⟩ = some (.int .i64 s'.now) := by simp [World.cell?, hX]
        have y2 : wc.cell? ⟨X, 2, none⟩ = some (.int .i64 s'.lost) := by simp [World.cell?, hX]
        have hbx := (hk7.block B hBl hpB.symm hmB.symm).trans HWI.out.box
        have e0 : wc.cell? ⟨B, 0, none⟩ = some (.slice base s.T.length cap) := by simp [World.cell?, hbx]
        have e1 : wc.cell? ⟨B, 1, none⟩ = some (.int .i64 s.now) := by simp [World.cell?, hbx]
        have e2 : wc.cell? ⟨B, 2, none⟩ = some (.int .i64 s.lost) := by simp [World.cell?, hbx]
        have f2 : ∀ o, wc.frozen? ⟨B, o, none⟩ = false := fun o => by simp [World.frozen?, hbx]
        have hBX : B ≠ X := hXB.symm
        have HST := Lib.hid (HWI.out.step (cap' := cap') hO7 hn7 hr7 hp7 hk7)
        clear hX hn7 hr7 hp7 hk7 hO7 hbx HA HA2 a0 a1 a2 a3 a4 HWI hpB hmB hwp hwm hBl hpl hml
        go_upto_region 8 with fail
        go_region_held3 (fun w' => w'.cell? ⟨X, 0, none⟩ = some (.slice base' s'.T.length cap') ∧ w'.cell? ⟨X, 1, none⟩ = some (.int .i64 s'.now) ∧ w'.cell? ⟨X, 2, none⟩ = some (.int .i64 s'.lost))
          (go_keep)
          (fail)
        clear y0 y1 y2 e0 e1 e2 f2 hXB hBX
        have HW4 := Lib.hid (HST.out.below ((Below.refl _ _).drew))
        clear HST
        generalize (((wc.setCell ⟨B, 0, none⟩ (.slice base' s'.T.length cap')).setCell ⟨B, 1, none⟩ (.int .i64 s'.now)).setCell ⟨B, 2, none⟩ (.int .i64 s'.lost)).drew = W4 at *
        have hG := Get_any p' m' s'.T s'.now s'.lost fc' ad' W4.drew (HW4.out.nw.ns.below ((Below.refl _ _).drew)) hKB
        have hG2 := Get_any p' m' s'.T s'.now s'.lost fc' ad' (W4.alloc z40).drew (HW4.out.nw.ns.below ((below_k _ _).drew)) hKB
        generalize hr : getR s'.T fc' ad' = r at *
        generalize hh : hasR s'.T fc' ad' = hs at *
        simp only [recV] at hG hG2
        have HG := Lib.hid hG
        have HG2 := Lib.hid hG2
        have HRr := Lib.hid hr
        have HHs := Lib.hid hh
        clear hG hG2 hr hh
        have hws4 := HW4.out.bl.size
        have a1 := cell_below HW4.out.bl HA1.out
        have a3 := cell_below HW4.out.bl HA3.out
        go_upto_region 9 with fail
        go_cut [9, 10] (R9 W4 r hs)
        case first => as_aux_lemma =>
          have x3 : W4.heap.size ≠ b := by omega
          have x4 : b ≠ W4.heap.size := by omega
          have x5 : b < W4.heap.size := by omega
          go_region_held3 (fun w' => w'.cell? ⟨b, o + i * 5 + 1, none⟩ = some (.int .i64 fc') ∧ w'.cell? ⟨b, o + i * 5 + 3, none⟩ = some (.int .u32 ad'))
            (go_keep)
            (first
              | ((with_reducible refine HG.out.mono ?_); rintro e w5 ⟨rfl, hb5⟩; have hb := bthen ((Below.refl _ W4).drew) hb5; have a1 := cell_below hb a1; have a3 := cell_below hb a3; have HR9 := Lib.hid (R9.late r hs hb); clear hb hb5)
              | ((with_reducible refine HG2.out.mono ?_); rintro e w5 ⟨rfl, hb5⟩; have hb := bthen ((Below.refl _ (W4.alloc z40)).drew) hb5; have hb6 := bthen (below_k W4 z40) hb; have a1 := cell_below hb6 a1; have a3 := cell_below hb6 a3; have hX := (hb.block W4.heap.size (by simp)).trans (World.alloc_heap_new W4 z40); have e0 : w5.cell? ⟨W4.heap.size, 0, none⟩ = some (.int .i64 0) := (by simp [World.cell?, hX]); have e1 : w5.cell? ⟨W4.heap.size, 1, none⟩ = some (.int .u32 0) := (by simp [World.cell?, hX]); have e2 : w5.cell? ⟨W4.heap.size, 2, none⟩ = some (.int .i64 0) := (by simp [World.cell?, hX]); have e3 : w5.cell? ⟨W4.heap.size, 3, none⟩ = some (.int .i64 0) := (by simp [World.cell?, hX]); have e4 : w5.cell? ⟨W4.heap.size, 4, none⟩ = some (.int .i64 0) := (by simp [World.cell?, hX]); have f2 : ∀ o, w5.frozen? ⟨W4.heap.size, o, none⟩ = false := (fun o => by simp [World.frozen?, hX]); have HR9 := Lib.hid (R9.early r hs hb); clear hb hb5 hb6 hX))
          all_goals (clear a1 a3; go_wp2_with fail; go_meet; exact HR9.out)
        case rest =>
          obtain ⟨X9, rfl, rfl, hX9, hb9⟩ := hcut
          have HW5 := Lib.hid (HW4.out.below hb9)
          have HX9 := Lib.hid hX9
          clear hX9 hb9 HG HG2 HW4 a1 a3
          have a1 := cell_below HW5.out.bl HA1.out
          have a3 := cell_below HW5.out.bl HA3.out
          have c0 := HW5.out.c0
          have c1 := HW5.out.c1
          have c2 := HW5.out.c2
          obtain ⟨g, hSg⟩ := HW5.out.rw
          have hlen := HW5.out.nw.len
          have HAt := Lib.hid (At_any base' g cap' s'.T s'.now s'.lost fc' ad' wc.drew (hSg.below ((Below.refl _ _).drew)) (by omega))
          clear hSg
          go_upto_region 10 with fail
          go_region_held3 (fun w' => w'.cell? ⟨b, o + i * 5 + 1, none⟩ = some (.int .i64 fc') ∧ w'.cell? ⟨b, o + i * 5 + 3, none⟩ = some (.int .u32 ad') ∧ w'.cell? ⟨B, 0, none⟩ = some (.slice base' s'.T.length cap') ∧ w'.cell? ⟨B, 1, none⟩ = some (.int .i64 s'.now) ∧ w'.cell? ⟨B, 2, none⟩ = some (.int .i64 s'.lost))
            (go_keep)
            (((with_reducible refine HAt.out.mono ?_); rintro e w7 ⟨rfl, hw7⟩; have hb7 : Below wc.heap.size wc w7 := (by rw [hw7]; exact ((Below.refl _ _).drew).alloc (Nat.le_refl _) _); have a1 := cell_below hb7 a1; have a3 := cell_below hb7 a3; have c0 := cell_below hb7 c0; have c1 := cell_below hb7 c1; have c2 := cell_below hb7 c2; have HB7 := Lib.hid hb7; clear hb7 hw7))
          have HW7 := Lib.hid (HW5.out.below HB7.out)
          have hX7 := (HB7.out.block X9 (Array.getElem?_eq_some_iff.1 HX9.out).1).trans HX9.out
          have x0 : w7.cell? ⟨X9, 0, none⟩ = some (.int .i64 r.face) := by simp [World.cell?, hX7]
          have x1 : w7.cell? ⟨X9, 1, none⟩ = some (.int .u32 r.addr) := by simp [World.cell?, hX7]
          have x2 : w7.cell? ⟨X9, 2, none⟩ = some (.int .i64 r.last) := by simp [World.cell?, hX7]
          have x3 : w7.cell? ⟨X9, 3, none⟩ = some (.int .i64 r.good) := by simp [World.cell?, hX7]
          have x4 : w7.cell? ⟨X9, 4, none⟩ = some (.int .i64 r.bad) := by simp [World.cell?, hX7]
          clear hX7 HX9 HB7 HW5 a1 a3 HAt
          generalize hat : atN fc' ad' s'.T = av at *
          have HAT := Lib.hid hat
          clear hat
          go_upto_region 11 with fail
          go_cut [103] (fun v wx => v = .bool false ∧ Below w7.heap.size w7 wx)
          case first =>
            cases hs with
            | true => as_aux_lemma =>
              obtain ⟨hm, e1, e2⟩ := getR_mem HHs.out
              rw [HRr.out] at hm e1 e2
              obtain ⟨j, hj⟩ : ∃ j, atI fc' ad' s'.T = some j := by
                cases hc : atI fc' ad' s'.T with
                | none => rw [atI_none.1 hc] at HHs; exact absurd HHs.out (by simp)
                | some j => exact ⟨j, rfl⟩
              obtain ⟨r', h1, h2, _⟩ := atI_some hj
              have hr' : r' = r := by
                obtain ⟨f1, f2⟩ := atR_iff.1 h2
                exact HW7.out.ord.apart.one (List.mem_of_getElem? h1) hm (f1.trans e1.symm) (f2.trans e2.symm)
              subst hr'
              have ha0 : av = j := by rw [← HAT.out]; unfold atN; rw [hj]
              obtain ⟨g7, hS7⟩ := HW7.out.rw
              obtain ⟨eb, z0, z1, z2, z3, z4⟩ := hS7.row j r' h1
              have hjl : j < s'.T.length := (List.getElem?_eq_some_iff.1 h1).1
              clear hj h1 h2 hm e1 e2 hS7
              subst eb
              subst ha0
              have j1 : (0 : Int) ≤ (j : Int) := by omega
              have j2 : (j : Int) < (s'.T.length : Int) := by omega
              have y0 := cell_regrown z0
              have y1 := cell_regrown z1
              have y2 := cell_regrown z2
              have y3 := cell_regrown z3
              have y4 := cell_regrown z4
              clear z0 z1 z2 z3 z4
              have k0 := cell_regrown x0
              have k1 := cell_regrown x1
              have k2 := cell_regrown x2
              have k3 := cell_regrown x3
              have k4 := cell_regrown x4
              have k5 := cell_regrown c0
              have k6 := cell_regrown c1
              have k7 := cell_regrown c2
              clear x0 x1 x2 x3 x4 c0 c1 c2
              by_cases hi4 : i % 4 = 3
              · have t7 : ((i : Int) % 4 == 3) = true := by simp; omega
                refine wp_region_quiet_below (by kernel_rfl) (by kernel_rfl) ?_
                repeat (go_big_quiet_step (exact Calls.regrown_of (is_any p' m' s' _ cap' _ (HW7.out.nw.below (below_regrown _ _ _)) HW7.out.ord (HW7.out.rw.below (below_regrown _ _ _)))))
                refine wpQuiet_nil ?_
                intro _ hw'
                obtain ⟨⟨dq, osq⟩, hw''⟩ := hw'
                subst hw''
                have HBq := Lib.hid (below_regrown w7 dq osq)
                clear k0 k1 k2 k3 k4 k5 k6 k7 y0 y1 y2 y3 y4
                generalize Sort.grow (redrawn w7 dq) osq = W8 at *
                go_wp2_with fail
                go_meet
                exact ⟨rfl, HBq.out⟩
              · have t7 : ((i : Int) % 4 == 3) = false := by simp; omega
                refine wp_region_quiet_below (by kernel_rfl) (by kernel_rfl) ?_
                repeat (go_big_quiet_step (exact Calls.regrown_of (is_any p' m' s' _ cap' _ (HW7.out.nw.below (below_regrown _ _ _)) HW7.out.ord (HW7.out.rw.below (below_regrown _ _ _)))))
                refine wpQuiet_nil ?_
                intro _ hw'
                obtain ⟨⟨dq, osq⟩, hw''⟩ := hw'
                subst hw''
                have HBq := Lib.hid (below_regrown w7 dq osq)
                clear k0 k1 k2 k3 k4 k5 k6 k7 y0 y1 y2 y3 y4
                generalize Sort.grow (redrawn w7 dq) osq = W8 at *
                go_wp2_with fail
                go_meet
                exact ⟨rfl, HBq.out⟩
            | false => as_aux_lemma =>
              have hr0 : r = zeroR := by
                rw [← HRr.out]
                unfold getR
                rw [List.find?_eq_none.2 (fun q hq => by have := HHs.out; unfold hasR at this; rw [List.any_eq_false] at this; exact this q hq)]
                rfl
              have ha0 : av = -1 := by rw [← HAT.out]; unfold atN; rw [atI_none.2 HHs.out]
              subst hr0
              subst ha0
              simp only [zeroR] at x0 x1 x2 x3 x4
              have k0 := cell_regrown x0
              have k1 := cell_regrown x1
              have k2 := cell_regrown x2
              have k3 := cell_regrown x3
              have k4 := cell_regrown x4
              have k5 := cell_regrown c0
              have k6 := cell_regrown c1
              have k7 := cell_regrown c2
              clear x0 x1 x2 x3 x4 c0 c1 c2
              by_cases hi4 : i % 4 = 3
              · have t7 : ((i : Int) % 4 == 3) = true := by simp; omega
                refine wp_region_quiet_below (by kernel_rfl) (by kernel_rfl) ?_
                repeat (go_big_quiet_step (exact Calls.regrown_of (is_any p' m' s' _ cap' _ (HW7.out.nw.below (below_regrown _ _ _)) HW7.out.ord (HW7.out.rw.below (below_regrown _ _ _)))))
                refine wpQuiet_nil ?_
                intro _ hw'
                obtain ⟨⟨dq, osq⟩, hw''⟩ := hw'
                subst hw''
                have HBq := Lib.hid (below_regrown w7 dq osq)
                clear k0 k1 k2 k3 k4 k5 k6 k7
                generalize Sort.grow (redrawn w7 dq) osq = W8 at *
                go_wp2_with fail
                go_meet
                exact ⟨rfl, HBq.out⟩
              · have t7 : ((i : Int) % 4 == 3) = false := by simp; omega
                refine wp_region_quiet_below (by kernel_rfl) (by kernel_rfl) ?_
                repeat (go_big_quiet_step (exact Calls.regrown_of (is_any p' m' s' _ cap' _ (HW7.out.nw.below (below_regrown _ _ _)) HW7.out.ord (HW7.out.rw.below (below_regrown _ _ _)))))
                refine wpQuiet_nil ?_
                intro _ hw'
                obtain ⟨⟨dq, osq⟩, hw''⟩ := hw'
                subst hw''
                have HBq := Lib.hid (below_regrown w7 dq osq)
                clear k0 k1 k2 k3 k4 k5 k6 k7
                generalize Sort.grow (redrawn w7 dq) osq = W8 at *
                go_wp2_with fail
                go_meet
                exact ⟨rfl, HBq.out⟩
          case rest =>
            obtain ⟨rfl, hbc⟩ := hcut
            have HWC := Lib.hid (HW7.out.below hbc)
            clear hbc HW7 x0 x1 x2 x3 x4 c0 c1 c2
            go_wp2_with fail
            go_roundg (k - (i + 1))
            case measure => have := Hn.out; omega
            case rel => exact ⟨i + 1, p', m', s', base', cap', rfl, by omega, rfl, by go_num, HWC.out⟩
    · obtain rfl : i = k := by omega
      have c0 := HWI.out.c0
      have c1 := HWI.out.c1
      have c2 := HWI.out.c2
      have HIs := Lib.hid (is_any p m s base cap wr HWI.out.nw HWI.out.ord HWI.out.rw)
      go_wp2_with (first
        | (go_at_call 20; refine HIs.out.mono ?_; rintro e w3 ⟨rfl, hb3⟩; have HB3 := Lib.hid hb3; clear hb3)
        | (go_at_call 8; refine (works_any _ (HWI.out.nw.fb.below HB3.out)).mono ?_; rintro e w4 ⟨rfl, hb4⟩; have HB4 := Lib.hid (bthen HB3.out hb4); clear hb4)
        | fail)
      go_ret
      exact ⟨rfl, bthen HWI.out.bl HB4.out⟩

set_option maxHeartbeats 4000000 in
set_option maxRecDepth 100000 in
theorem plays_more (w : World) (hF : FB w) (base : Option Addr) (k c : Nat) (hk : 50 < k) (hm : k ≤ 9223372036854775807) :
    Calls Tryd.prog 5 #[.slice base k c] w fun e w' => e = .returned (.bool true) ∧ Below w.heap.size w w' := by
  have t1 : decide ((50 : Int) < k) = true := by simp; omega
  have HF := Lib.hid hF
  clear hF
  go_enter Tryd.func5, Tryd.ntmps5
  go_wp2_with (go_at_call 8; refine (works_any _ HF.out).mono ?_; rintro e w9 ⟨rfl, hb9⟩; have HB9 := Lib.hid hb9; clear hb9)
  go_ret
  exact ⟨rfl, HB9.out⟩

theorem NeighPlays_all (w : World) (hF : FB w) (base : Option Addr) (k c b o : Nat) (what face bad addr more : Nat → Int) (h : ActsIn w base k b o what face bad addr more) (hm : k ≤ 9223372036854775807) :
    Calls Tryd.prog 5 #[.slice base k c] w fun e w' => e = .returned (.bool true) ∧ Below w.heap.size w w' := by
  by_cases h1 : 50 < k
  · exact plays_more w hF base k c h1 hm
  · exact plays_any w hF base b o k c what face bad addr more h.at' (by omega) h.bd h.is
end Go.Proofs.YtahkhecfnimdbaaDoor
