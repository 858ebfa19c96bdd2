/- TrieFrom: the walk. -/
import Derived.Test.YtbacahoihkpkpaaDoorU10
import Derived.Test.YtbacahoihkpkpaaDoorT35
namespace Go.Proofs.YtbacahoihkpkpaaDoor
open Go.RowKit Go.Shelf Go.Maps

theorem rFrom_rt (v : Value) (g : Nat) (L : List (Key × Int)) (a n : Int) (w : World) (hS : RT w g v L) (hl : L.length ≤ 1000000) :
    Calls Tryd.prog 28 #[v, .agg #[.int .u32 a, .int .i64 n]] w fun e w' => ∃ v', e = .returned v' ∧ RSl w' v' (L.drop (ahd a n L)) ∧ Below w.heap.size w w' := by
  obtain ⟨base, cap, rfl, h2, h3⟩ := hS.ex
  exact rFrom_any base g cap L a n w h2 h3 hl
theorem ToldF.acted {w0 W0 W W' : World} {q g q' g' : Nat} {t t' : TT} {v v' : Value} {L : List (Key × Int)} (h : ToldF W W0.heap.size v L) (hst : TrS W0 q t) (hA : Acted w0 W W' q t g q' t' g' v') : ToldF W' W0.heap.size v L :=
  h.keep fun i h1 h2 => hA.kb.block i h2 (fun hm => by
    rcases List.mem_cons.1 hm with e | hm
    · have := hst.lt; omega
    · have := hst.here.lt hm; omega)

set_option maxRecDepth 100000 in
set_option maxHeartbeats 8000000 in
theorem TrieFrom_any (w : World) (hR : RelsAt w) (base : Option Addr) (b o k c : Nat) (what a n val : Nat → Int) (h : ActsIn w base b o k what a n val) (hk : k ≤ 40) (pa pn many wt xa xn xv : Int) (x0 : 0 ≤ xa) (x1 : xa < 4294967296) :
    Calls Tryd.prog 5 #[.slice base k c, .agg #[.int .u32 pa, .int .i64 pn], .int .i64 many, .agg #[.int .i64 wt, .int .u32 xa, .int .i64 xn, .int .i64 xv]] w fun e w' => e = .returned (.bool true) ∧ Below w.heap.size w w' := by
  have t1 : decide ((40 : Int) < (k : Int)) = false := by simp; omega
  have b1 : Below w.heap.size w ((w.alloc (.cells #[.int .u32 pa, .int .i64 pn] 26)).alloc (.cells #[.int .i64 wt, .int .u32 xa, .int .i64 xn, .int .i64 xv] 61)) := ((Below.refl _ w).alloc (Nat.le_refl _) _).alloc (by simp) _
  have p0 : ((w.alloc (.cells #[.int .u32 pa, .int .i64 pn] 26)).alloc (.cells #[.int .i64 wt, .int .u32 xa, .int .i64 xn, .int .i64 xv] 61)).heap[w.heap.size]? = some (.cells #[.int .u32 pa, .int .i64 pn] 26 (0, 0)) := (Below.heap_alloc _ _ _ (by simp)).trans (World.alloc_heap_new w _)
  have p1 : ((w.alloc (.cells #[.int .u32 pa, .int .i64 pn] 26)).alloc (.cells #[.int .i64 wt, .int .u32 xa, .int .i64 xn, .int .i64 xv] 61)).heap[w.heap.size + 1]? = some (.cells #[.int .i64 wt, .int .u32 xa, .int .i64 xn, .int .i64 xv] 61 (0, 0)) := by
    have := World.alloc_heap_new (w.alloc (.cells #[.int .u32 pa, .int .i64 pn] 26)) (.cells #[.int .i64 wt, .int .u32 xa, .int .i64 xn, .int .i64 xv] 61)
    rwa [World.size_alloc] at this
  have HPly := Lib.hid (played_any _ (hR.below b1) base b o k c what a n val (h.below b1) (by omega))
  have HB1 := Lib.hid b1
  have HP0 := Lib.hid p0
  have HP1 := Lib.hid p1
  clear b1 p0 p1 h hR
  go_enter Tryd.func5, Tryd.ntmps5
  go_upto_region 3 with fail
  generalize ((w.alloc (.cells #[.int .u32 pa, .int .i64 pn] 26)).alloc (.cells #[.int .i64 wt, .int .u32 xa, .int .i64 xn, .int .i64 xv] 61)) = X at *
  go_upto_region 4 with (first
    | (go_at_call 10; with_reducible refine HPly.out.mono ?_; rintro e w2 ⟨q, t, g, v, rfl, hpw, hlen⟩; obtain ⟨sb, sc, rfl, _, _⟩ := hpw.rt.ex; have HPW := Lib.hid hpw; have HLen := Lib.hid hlen; clear hpw hlen)
    | fail)
  have HB2 := Lib.hid (bthen HPW.out.tw.bl ((Below.refl _ w2).alloc (Nat.le_refl _) (.cells #[.slice sb t.rows.length sc] 31)))
  have HW := Lib.hid (HPW.out.below ((Below.refl _ w2).alloc (Nat.le_refl _) (.cells #[.slice sb t.rows.length sc] 31)))
  have HO := Lib.hid (OneB.new w2 (.slice sb t.rows.length sc) 31)
  have HNb := Lib.hid (show w2.heap.size ∉ q :: t.blocks from fun hm => by
    rcases List.mem_cons.1 hm with e | hm
    · have := HPW.out.tw.st.lt; omega
    · have := HPW.out.tw.st.here.lt hm; omega)
  generalize (w2.alloc (.cells #[.slice sb t.rows.length sc] 31)) = Y at *
  generalize w2.heap.size = B at *
  have HFr := Lib.hid (From_any q t pa pn Y HW.out.tw.st (by have := HLen.out; omega))
  have q0 : Y.heap[w.heap.size]? = some (.cells #[.int .u32 pa, .int .i64 pn] 26 (0, 0)) := (HB2.out.block _ (Array.getElem?_eq_some_iff.1 HP0.out).1).trans HP0.out
  have q1 : Y.heap[w.heap.size + 1]? = some (.cells #[.int .i64 wt, .int .u32 xa, .int .i64 xn, .int .i64 xv] 61 (0, 0)) := (HB2.out.block _ (Array.getElem?_eq_some_iff.1 HP1.out).1).trans HP1.out
  have HCell := Lib.hid (show ∀ W', Below Y.heap.size Y W' → (W'.cell? ⟨w.heap.size, 0, none⟩ = some (.int .u32 pa) ∧ W'.cell? ⟨w.heap.size, 1, none⟩ = some (.int .i64 pn)) ∧ (W'.cell? ⟨w.heap.size + 1, 0, none⟩ = some (.int .i64 wt) ∧ W'.cell? ⟨w.heap.size + 1, 1, none⟩ = some (.int .u32 xa) ∧ W'.cell? ⟨w.heap.size + 1, 2, none⟩ = some (.int .i64 xn) ∧ W'.cell? ⟨w.heap.size + 1, 3, none⟩ = some (.int .i64 xv)) ∧ W'.cell? ⟨B, 0, none⟩ = some (.slice sb t.rows.length sc) from fun W' hb => by
    have r0 := (hb.block _ (Array.getElem?_eq_some_iff.1 q0).1).trans q0
    have r1 := (hb.block _ (Array.getElem?_eq_some_iff.1 q1).1).trans q1
    exact ⟨⟨by simp [World.cell?, r0], by simp [World.cell?, r0]⟩, ⟨by simp [World.cell?, r1], by simp [World.cell?, r1], by simp [World.cell?, r1], by simp [World.cell?, r1]⟩, (HO.out.below hb).c⟩)
  have HQ0 := Lib.hid q0
  clear q1 q0
  obtain ⟨⟨c0, c1⟩, ⟨d0, d1, d2, d3⟩, e0⟩ := HCell.out Y (Below.refl _ _)
  go_upto_region 6 with (first
    | (go_at_call 26; with_reducible refine HFr.out.mono ?_; rintro e w3 ⟨fv, rfl, htd, hb⟩; have HTd := Lib.hid htd; have HB3 := Lib.hid hb; have HA := Lib.hid (act_any X q g t _ wt xa xn xv w3 (HW.out.below hb) x0 x1 (by have := HLen.out; omega)); clear c0 c1 d0 d1 d2 d3 e0; obtain ⟨⟨c0, c1⟩, ⟨d0, d1, d2, d3⟩, e0⟩ := HCell.out w3 hb; clear htd hb)
    | (go_at_call 27; (with_reducible refine HA.out.mono ?_); rintro e w4 ⟨q', t', g', v', rfl, hA, _⟩; have HAc := Lib.hid hA; clear hA)
    | fail)
  clear c0 c1 d0 d1 d2 d3 e0
  have hTd4 := HTd.out.acted HW.out.tw.st HAc.out
  have hRt4 : RT w4 g (.agg #[.slice sb t.rows.length sc]) t.rows := ((HW.out.below HB3.out).rt).of_block (HAc.out.kb.block g (HW.out.below HB3.out).rt.lt HW.out.ap)
  have hbx : ∀ i, i < X.heap.size → w4.heap[i]? = Y.heap[i]? := fun i hi => by
    have h2 := HB2.out.size
    exact (HAc.out.kb.block i (by have := HB3.out.size; omega) (fun hm => by have := HW.out.tw.ge i hm; omega)).trans (HB3.out.block i (by omega))
  have hO4 : OneB w4 B (.slice sb t.rows.length sc) 31 := (HAc.out.kb.block B (by have := HB3.out.size; have := HO.out.lt; omega) HNb.out).trans (HO.out.below HB3.out)
  have hp4 := (hbx _ (Array.getElem?_eq_some_iff.1 HP0.out).1).trans HQ0.out
  have HB4 := Lib.hid (HAc.out.pw.tw.bl)
  have HRel := Lib.hid HAc.out.pw.tw.rel
  have HCl4 := Lib.hid (show ∀ W', Below w4.heap.size w4 W' → (W'.cell? ⟨w.heap.size, 0, none⟩ = some (.int .u32 pa) ∧ W'.cell? ⟨w.heap.size, 1, none⟩ = some (.int .i64 pn)) ∧ W'.cell? ⟨B, 0, none⟩ = some (.slice sb t.rows.length sc) from fun W' hb => by
    have r0 := (hb.block _ (Array.getElem?_eq_some_iff.1 hp4).1).trans hp4
    exact ⟨⟨by simp [World.cell?, r0], by simp [World.cell?, r0]⟩, (hO4.below hb).c⟩)
  have HTd4 := Lib.hid hTd4
  have HRt4 := Lib.hid hRt4
  have HKl := Lib.hid (show ∀ x ∈ t.rows.drop (ahd pa pn t.rows), x.1.length ≤ 32 from fun x hx => HW.out.tw.st.rowsLen x (List.mem_of_mem_drop hx))
  have HDl := Lib.hid (show (t.rows.drop (ahd pa pn t.rows)).length < 1000000 by have := HLen.out; simp; omega)
  clear hTd4 hRt4 hbx hO4 hp4
  obtain ⟨⟨c0, c1⟩, e0⟩ := HCl4.out w4 (Below.refl _ _)
  have HV := Lib.hid (Below.refl w4.heap.size w4)
  go_wp2_with (first
    | (go_at_call 28; with_reducible refine (rFrom_rt _ g t.rows pa pn _ (HRt4.out.below HV.out) (by have := HLen.out; omega)).mono ?_; rintro e w5 ⟨rv, rfl, hsl, hb⟩; have HSl := Lib.hid hsl; have HV := Lib.hid (bthen HV.out hb); clear c0 c1 e0 hsl hb; obtain ⟨⟨c0, c1⟩, e0⟩ := HCl4.out _ HV.out)
    | (go_at_call 15; with_reducible refine (rows_told (HTd4.out.below HV.out).told HSl.out HDl.out HKl.out _).mono ?_; rintro e w5 ⟨rfl, hb⟩; have HV := Lib.hid (bthen HV.out hb); clear c0 c1 e0 hb; obtain ⟨⟨c0, c1⟩, e0⟩ := HCl4.out _ HV.out)
    | (go_at_call 9; with_reducible refine (works_any _ (HRel.out.below HV.out)).mono ?_; rintro e w5 ⟨rfl, hb⟩; have HV := Lib.hid (bthen HV.out hb); clear c0 c1 e0 hb; obtain ⟨⟨c0, c1⟩, e0⟩ := HCl4.out _ HV.out)
    | fail)
  go_ret
  exact ⟨rfl, bthen HB1.out (bthen HB4.out HV.out)⟩
end Go.Proofs.YtbacahoihkpkpaaDoor
