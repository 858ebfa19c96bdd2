/- Both in memory, from call to call; NeighAll. -/
import Derived.Test.YtahkhecfnimdbaaDoorW4
import Derived.Test.YtahkhecfnimdbaaDoorL0
import Derived.Test.YtahkhecfnimdbaaDoorR2
import Derived.Deep.RegionWith
namespace Go.Proofs.YtahkhecfnimdbaaDoor
open Go.RowKit Go.Maps

/-- both in memory: the neighbours behind p, the document's in the box B -/
structure BW (w wr : World) (B p m : Nat) (s : St) (base : Option Addr) (cap : Nat) : Prop where
  nw : NW wr p m s
  ord : OrdT s.T
  rw : RW wr base s
  box : wr.heap[B]? = some (.cells #[.slice base s.T.length cap, .int .i64 s.now, .int .i64 s.lost] 47 (0, 0))
  bl : Below w.heap.size w wr
  pB : p ≠ B
  mB : m ≠ B
  wp : w.heap.size ≤ p
  wm : w.heap.size ≤ m
  wB : w.heap.size ≤ B
section
variable {w wr : World} {B p m : Nat} {s : St} {base : Option Addr} {cap : Nat} (h : BW w wr B p m s base cap)
include h
theorem BW.lt : B < wr.heap.size := (Array.getElem?_eq_some_iff.1 h.box).1
theorem BW.c0 : wr.cell? ⟨B, 0, none⟩ = some (.slice base s.T.length cap) := by simp [World.cell?, h.box]
theorem BW.c1 : wr.cell? ⟨B, 1, none⟩ = some (.int .i64 s.now) := by simp [World.cell?, h.box]
theorem BW.c2 : wr.cell? ⟨B, 2, none⟩ = some (.int .i64 s.lost) := by simp [World.cell?, h.box]
theorem BW.below {w2 : World} (hb : Below wr.heap.size wr w2) : BW w w2 B p m s base cap :=
  ⟨h.nw.below hb, h.ord, h.rw.below hb, (hb.block B h.lt).trans h.box, bthen h.bl hb, h.pB, h.mB, h.wp, h.wm, h.wB⟩
end
theorem SL.other3 {w w' : World} {base : Option Addr} {g B : Nat} {L : List Rec} {b : Option Addr} {l c : Nat} {x y : Value} {t : TypeId} (h : SL w base g L) (hb : w.heap[B]? = some (.cells #[.slice b l c, x, y] t (0, 0))) (hs : w.heap.size ≤ w'.heap.size) (ho : ∀ j, j ≠ B → w'.heap[j]? = w.heap[j]?) : SL w' base g L := by
  by_cases hL : L = []
  · subst hL
    exact ⟨Nat.lt_of_lt_of_le h.lt hs, fun _ => rfl, fun i r hr => by simp at hr⟩
  · obtain ⟨q, hq⟩ := List.exists_mem_of_ne_nil L hL
    obtain ⟨j, hj, _⟩ := List.mem_iff_getElem.1 hq
    have h0 : 0 < L.length := by omega
    obtain ⟨_, z0, _⟩ := h.row 0 _ (List.getElem?_eq_getElem h0)
    refine h.of_block (ho g ?_)
    rintro rfl
    unfold World.cell? at z0
    rw [hb] at z0
    simp at z0
theorem heap_set3 {W : World} {B : Nat} {x0 x1 x2 : Value} {t : TypeId} (h : W.heap[B]? = some (.cells #[x0, x1, x2] t (0, 0))) (y0 y1 y2 : Value) : (((W.setCell ⟨B, 0, none⟩ y0).setCell ⟨B, 1, none⟩ y1).setCell ⟨B, 2, none⟩ y2).heap[B]? = some (.cells #[y0, y1, y2] t (0, 0)) :=
  heap_setAt (heap_setAt (heap_setAt h 0 _) 1 _) 2 _
/-- behind a call by both, the document's written down -/
theorem BW.step {w wr w2 : World} {B p m p' m' : Nat} {s s' : St} {base base' : Option Addr} {cap cap' : Nat} (h : BW w wr B p m s base cap) (hO : OrdT s'.T) (hn : NW w2 p' m' s') (hr : RW w2 base' s') (hp : p' = p ∧ m' = m ∨ wr.heap.size ≤ p' ∧ wr.heap.size ≤ m') (hk : Kp p m wr w2) :
    BW w (((w2.setCell ⟨B, 0, none⟩ (.slice base' s'.T.length cap')).setCell ⟨B, 1, none⟩ (.int .i64 s'.now)).setCell ⟨B, 2, none⟩ (.int .i64 s'.lost)) B p' m' s' base' cap' := by
  have hB := h.lt
  have hw := h.bl.size
  have wp := h.wp
  have wm := h.wm
  have wB := h.wB
  have hbox := (hk.block B h.lt h.pB.symm h.mB.symm).trans h.box
  have hpB := h.pB
  have hmB := h.mB
  have p1 : p' ≠ B := by omega
  have m1 : m' ≠ B := by omega
  have z0 : 0 ≠ B := by
    rintro rfl
    have := hn.fb.c0
    unfold World.cell? at this
    rw [hbox] at this
    simp at this
  refine ⟨?_, hO, ?_, heap_set3 hbox _ _ _, ?_, p1, m1, by omega, by omega, h.wB⟩
  · exact hn.of_blocks (box3_other _ _ _ _ _ p1) (box3_other _ _ _ _ _ m1) (box3_other _ _ _ _ _ z0)
  · obtain ⟨g, hS⟩ := hr
    exact ⟨g, hS.other3 hbox (by rw [set3_size]; exact Nat.le_refl _) (fun j hj => box3_other _ _ _ _ _ hj)⟩
  · exact ⟨hk.os.trans h.bl.os, hk.tape.trans h.bl.tape, hk.output.trans h.bl.output, by rw [set3_size]; exact Nat.le_trans hw hk.size, fun i hi => (box3_other _ _ _ _ _ (by omega)).trans ((hk.block i (by omega) (by omega) (by omega)).trans (h.bl.block i hi))⟩
theorem BW.first {w w1 : World} {p m : Nat} (hn : NW w1 p m ⟨[], 0, 0⟩) (hb : Below w.heap.size w w1) (hp : w.heap.size ≤ p) (hm : w.heap.size ≤ m) : BW w (w1.alloc rnNil) w1.heap.size p m ⟨[], 0, 0⟩ none 0 := by
  have h1 := hn.ns.plt
  have h2 := hn.ns.mlt
  exact ⟨hn.below (below_k _ _), List.Pairwise.nil, ⟨0, SL.none (by simp)⟩, World.alloc_heap_new _ _, bthen hb (below_k _ _), by omega, by omega, hp, hm, hb.size⟩

def aRel (W0 : World) (B k : Nat) (n : Nat) (v7 v9 v10 : Value) (wr : World) : Prop :=
  ∃ (i p m : Nat) (s : St) (base : Option Addr) (cap : Nat), n = k - i ∧ i ≤ k ∧ v7 = .pointer (some ⟨p, 0, none⟩) ∧ v9 = .bool true ∧ v10 = .int .i64 i ∧ BW W0 wr B p m s base cap

set_option maxHeartbeats 4000000 in
set_option maxRecDepth 100000 in
theorem all_any (w : World) (hF : FB w) (la : Option Addr) (b o k c : Nat) (what face bad addr more : Nat → Int) (hla : 0 < k → la = some ⟨b, o, none⟩ ∧ b < w.heap.size) (hk : k ≤ 30) (hbd : ∀ i, ActB (what i) (face i) (bad i) (addr i) (more i)) (hl : ∀ i, i < k → ActIs w b (o + i * 5) (what i) (face i) (bad i) (addr i) (more i))
    (many wt fc bd ad mr : Int) (hx : ActB wt fc bd ad mr) :
    Calls Tryd.prog 4 #[.slice la k c, .int .i64 many, actV wt fc bd ad mr] w fun e w' => e = .returned (.bool true) ∧ Below w.heap.size w w' := by
  have t1 : decide ((30 : Int) < k) = false := by simp; omega
  have BX := below_k w (.cells #[.int .i64 wt, .int .i64 fc, .int .i64 bd, .int .u32 ad, .int .i64 mr] 33)
  have HF := Lib.hid (hF.below BX)
  have HL := Lib.hid (fun i hi => (hl i hi).below BX (hla (by omega)).2)
  have HBX := Lib.hid BX
  have HBD := Lib.hid hbd
  have HX := Lib.hid hx
  have hws : w.heap.size ≤ (w.alloc (.cells #[.int .i64 wt, .int .i64 fc, .int .i64 bd, .int .u32 ad, .int .i64 mr] 33)).heap.size := by simp
  have x0 : (w.alloc (.cells #[.int .i64 wt, .int .i64 fc, .int .i64 bd, .int .u32 ad, .int .i64 mr] 33)).cell? ⟨w.heap.size, 0, none⟩ = some (.int .i64 wt) := by simp [go_sem]
  have x1 : (w.alloc (.cells #[.int .i64 wt, .int .i64 fc, .int .i64 bd, .int .u32 ad, .int .i64 mr] 33)).cell? ⟨w.heap.size, 1, none⟩ = some (.int .i64 fc) := by simp [go_sem]
  have x2 : (w.alloc (.cells #[.int .i64 wt, .int .i64 fc, .int .i64 bd, .int .u32 ad, .int .i64 mr] 33)).cell? ⟨w.heap.size, 2, none⟩ = some (.int .i64 bd) := by simp [go_sem]
  have x3 : (w.alloc (.cells #[.int .i64 wt, .int .i64 fc, .int .i64 bd, .int .u32 ad, .int .i64 mr] 33)).cell? ⟨w.heap.size, 3, none⟩ = some (.int .u32 ad) := by simp [go_sem]
  have x4 : (w.alloc (.cells #[.int .i64 wt, .int .i64 fc, .int .i64 bd, .int .u32 ad, .int .i64 mr] 33)).cell? ⟨w.heap.size, 4, none⟩ = some (.int .i64 mr) := by simp [go_sem]
  have HXc := Lib.hid (And.intro x0 (And.intro x1 (And.intro x2 (And.intro x3 x4))))
  clear hF hl hbd hx BX x0 x1 x2 x3 x4
  go_enter Tryd.func4, Tryd.ntmps4
  go_upto_block 0 with (go_at_call 9; refine (New_nw _ HF.out).mono ?_; rintro e w1 ⟨⟨p, m, rfl, n0, hp, hm⟩, hb⟩; have N0 := Lib.hid n0; have HP := Lib.hid hp; have HM := Lib.hid hm; have HB := Lib.hid hb; clear n0 hp hm hb)
  have hBW := BW.first N0.out HB.out HP.out HM.out
  generalize w.alloc (.cells #[.int .i64 wt, .int .i64 fc, .int .i64 bd, .int .u32 ad, .int .i64 mr] 33) = W0 at *
  have HBW := Lib.hid hBW
  clear hBW N0 HP HM HB
  generalize w1.alloc rnNil = W1 at *
  generalize w1.heap.size = B at *
  go_wp2_with fail
  go_loopg [7, 9, 10] k (aRel W0 B k)
  case atStart => exact ⟨0, p, m, _, _, _, rfl, by omega, rfl, rfl, rfl, HBW.out⟩
  case round =>
    clear HBW
    obtain ⟨i, p, m, s, base, cap, hn, hik, rfl, rfl, rfl, hw⟩ := hrel
    have Hn := Lib.hid hn
    have HWI := Lib.hid hw
    clear hn hw
    by_cases hlt : i < k
    · obtain ⟨rfl, hbw⟩ := hla (by omega)
      have hbw' : b < W0.heap.size := by omega
      obtain ⟨a0, a1, a2, a3, a4⟩ := (HL.out i hlt).below HWI.out.bl hbw'
      have hB := HBD.out i
      have hb1 := hB.b.2
      obtain ⟨d0, d1⟩ := hB.a
      generalize hwt : what i = wt' at *
      generalize hfc : face i = fc' at *
      generalize hbd : bad i = bd' at *
      generalize hae : addr i = ad' at *
      generalize hmr : more i = mr' at *
      clear hwt hfc hbd hae hmr hB
      have BD := (Below.refl wr.heap.size wr).drew
      have HA := Lib.hid (act_any p m s base cap wt' fc' bd' ad' mr' wr.drew (HWI.out.nw.below BD) HWI.out.ord (HWI.out.rw.below BD) d0 d1 hb1)
      clear BD
      go_upto_block 1 with fail
      have c0 := HWI.out.c0
      have c1 := HWI.out.c1
      have c2 := HWI.out.c2
      have hbB : b ≠ B := by have := HWI.out.wB; omega
      have hBb : B ≠ b := hbB.symm
      have i1 : (0 : Int) ≤ (i : Int) := by omega
      have i2 : (i : Int) < (k : Int) := by omega
      go_cut [7, 9] (fun v7 v9 wx => ∃ (p' m' : Nat) (s' : St) (base' : Option Addr) (cap' : Nat), v7 = .pointer (some ⟨p', 0, none⟩) ∧ v9 = .bool true ∧ BW W0 wx B p' m' s' base' cap')
      case first => as_aux_lemma =>
        have hpB := HWI.out.pB
        have hmB := HWI.out.mB
        go_upto_region 8 with fail
        go_region_with ((((with_reducible refine HA.out.mono ?_); rintro e w2 ⟨⟨p', m', base', cap', rfl, hn, hr, hp, hk⟩, hO⟩; have hk3 := (Kp.of_below ((Below.refl _ wr).drew)).trans hk; have e0 := hk3.cell c0 (by simp; omega) (by simp; omega); have e1 := hk3.cell c1 (by simp; omega) (by simp; omega); have e2 := hk3.cell c2 (by simp; omega) (by simp; omega); have hbx := (hk3.block B HWI.out.lt hpB.symm hmB.symm).trans HWI.out.box; have f2 : ∀ o, w2.frozen? ⟨B, o, none⟩ = false := (fun o => by simp [World.frozen?, hbx]); have HST := Lib.hid (HWI.out.step (cap' := cap') hO hn hr hp hk3); clear hn hr hp hk hk3 hO hbx)))
        all_goals
          clear a0 a1 a2 a3 a4 c0 c1 c2 e0 e1 e2 f2
          generalize (((w2.setCell ⟨B, 0, none⟩ (.slice base' (actS s wt' fc' bd' ad' mr').T.length cap')).setCell ⟨B, 1, none⟩ (.int .i64 (actS s wt' fc' bd' ad' mr').now)).setCell ⟨B, 2, none⟩ (.int .i64 (actS s wt' fc' bd' ad' mr').lost)) = WF at *
          go_wp2_with fail
          go_meet
          exact ⟨p', m', _, base', cap', rfl, rfl, HST.out⟩
      case rest =>
        obtain ⟨p', m', s', base', cap', rfl, rfl, hst⟩ := hcut
        have HST := Lib.hid hst
        clear hst a0 a1 a2 a3 a4 c0 c1 c2
        go_wp2_with fail
        go_roundg (k - (i + 1))
        case measure => have := Hn.out; omega
        case rel => exact ⟨i + 1, p', m', s', base', cap', rfl, by omega, rfl, rfl, by go_num, HST.out⟩
    · obtain rfl : i = k := by omega
      have hlen := HWI.out.nw.len
      have HAl := Lib.hid (All_any p m s.T s.now s.lost wr HWI.out.nw.ns HWI.out.ord (by omega))
      go_upto_region 10 with (go_at_call 17; refine HAl.out.mono ?_; rintro e w3 ⟨bq, base3, g3, cap3, rfl, hq3, hs3, hb3⟩; have HQ3 := Lib.hid hq3; have HS3 := Lib.hid hs3; have HB3 := Lib.hid hb3; clear hq3 hs3 hb3)
      have hw3 := HWI.out.below HB3.out
      have c0 := hw3.c0
      have c1 := hw3.c1
      have c2 := hw3.c2
      have BB := bthen HWI.out.bl HB3.out
      have x0 := cell_below BB HXc.out.1
      have x1 := cell_below BB HXc.out.2.1
      have x2 := cell_below BB HXc.out.2.2.1
      have x3 := cell_below BB HXc.out.2.2.2.1
      have x4 := cell_below BB HXc.out.2.2.2.2
      have HW3 := Lib.hid hw3
      have hA := act_any p m s base cap wt fc bd ad mr w3 hw3.nw hw3.ord hw3.rw HX.out.a.1 HX.out.a.2 HX.out.b.2
      have HA := Lib.hid hA
      clear hA hw3 BB
      go_upto_region 11 with (go_at_call 16; refine HA.out.mono ?_; rintro e w4 ⟨⟨p', m', base', cap', rfl, hn, hr, hp, hk⟩, _⟩; have HK4 := Lib.hid hk; have HN4 := Lib.hid hn; clear hn hr hp hk)
      have hbp : bq ≠ p := by
        rintro rfl
        have h1 := HW3.out.nw.ns.box
        rw [HQ3.out] at h1
        simp at h1
      have hbm : bq ≠ m := by
        rintro rfl
        obtain ⟨D, ⟨es, clock, hb, _⟩, _⟩ := HW3.out.nw.ns.map
        rw [HQ3.out] at hb
        cases hb
      have hq4 := (HK4.out.block bq (Array.getElem?_eq_some_iff.1 HQ3.out).1 hbp hbm).trans HQ3.out
      have hs4 := HS3.out.kp HW3.out.nw.ns HK4.out
      obtain ⟨g, hs5⟩ := HW3.out.rw.kp HW3.out.nw.ns HK4.out
      have d0 := HK4.out.cell c0 (by have := HW3.out.pB; simp; omega) (by have := HW3.out.mB; simp; omega)
      have HB4 := Lib.hid (below_kp HW3.out.bl HW3.out.wp HW3.out.wm HK4.out)
      have HQ4 := Lib.hid hq4
      have HS4 := Lib.hid hs4
      have HS5 := Lib.hid hs5
      clear hq4 hs4 hs5 c0 c1 c2 x0 x1 x2 x3 x4 hbp hbm
      have HR1 := Lib.hid (fun (mn : Int) (W : World) (hW : Below w4.heap.size w4 W) => rows_any bq s.T base3 base g3 g cap3 cap mn W (by omega) ((hW.block bq (Array.getElem?_eq_some_iff.1 HQ4.out).1).trans HQ4.out) (HS4.out.below hW) (HS5.out.below hW))
      have HFW := Lib.hid HN4.out.fb
      clear HN4 HQ4 HS4 HS5 HA HAl
      go_wp2_with (first
        | (go_at_call 18; refine (HR1.out _ w4 (Below.refl _ _)).mono ?_; rintro e w5 ⟨rfl, hb5⟩; have d0 := cell_below hb5 d0; have HB5 := Lib.hid hb5; clear hb5)
        | (go_at_call 18; refine (HR1.out _ w5 HB5.out).mono ?_; rintro e w6 ⟨rfl, hb6⟩; have HB6 := Lib.hid (bthen HB5.out hb6); clear hb6)
        | (go_at_call 8; refine (works_any _ (HFW.out.below HB6.out)).mono ?_; rintro e w7 ⟨rfl, hb7⟩; have HB7 := Lib.hid (bthen HB6.out hb7); clear hb7)
        | fail)
      go_ret
      exact ⟨rfl, bthen HBX.out (bthen HB4.out HB7.out)⟩

set_option maxHeartbeats 4000000 in
set_option maxRecDepth 100000 in
theorem all_more (w : World) (hF : FB w) (base : Option Addr) (k c : Nat) (hk : 30 < k) (hm : k ≤ 9223372036854775807) (many wt fc bd ad mr : Int) :
    Calls Tryd.prog 4 #[.slice base k c, .int .i64 many, actV wt fc bd ad mr] w fun e w' => e = .returned (.bool true) ∧ Below w.heap.size w w' := by
  have t1 : decide ((30 : Int) < k) = true := by simp; omega
  have BX := below_k w (.cells #[.int .i64 wt, .int .i64 fc, .int .i64 bd, .int .u32 ad, .int .i64 mr] 33)
  have HF := Lib.hid (hF.below BX)
  have HBX := Lib.hid BX
  clear hF BX
  go_enter Tryd.func4, Tryd.ntmps4
  go_wp2_with (go_at_call 8; refine (works_any _ HF.out).mono ?_; rintro e w9 ⟨rfl, hb9⟩; have HB9 := Lib.hid hb9; clear hb9)
  go_ret
  exact ⟨rfl, bthen HBX.out HB9.out⟩

theorem NeighAll_all (w : World) (hF : FB w) (base : Option Addr) (k c b o : Nat) (what face bad addr more : Nat → Int) (h : ActsIn w base k b o what face bad addr more) (hm : k ≤ 9223372036854775807) (many wt fc bd ad mr : Int) (hx : ActB wt fc bd ad mr) :
    Calls Tryd.prog 4 #[.slice base k c, .int .i64 many, actV wt fc bd ad mr] w fun e w' => e = .returned (.bool true) ∧ Below w.heap.size w w' := by
  by_cases h1 : 30 < k
  · exact all_more w hF base k c h1 hm many wt fc bd ad mr
  · exact all_any w hF base b o k c what face bad addr more h.at' (by omega) h.bd h.is many wt fc bd ad mr hx
end Go.Proofs.YtahkhecfnimdbaaDoor
