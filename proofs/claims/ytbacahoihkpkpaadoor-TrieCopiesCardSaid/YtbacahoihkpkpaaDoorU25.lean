/- TrieCopies: the walk. -/
import Derived.Test.YtbacahoihkpkpaaDoorU22
import Derived.Test.YtbacahoihkpkpaaDoorU24
namespace Go.Proofs.YtbacahoihkpkpaaDoor
open Go.RowKit Go.Shelf Go.Maps

theorem PW.keep {w0 W W' : World} {q g : Nat} {t : TT} {v : Value} (h : PW w0 W q t g v) (hb : Below w0.heap.size w0 W') (hr : RelsAt W') (hk : ∀ c ∈ q :: t.blocks, W'.heap[c]? = W.heap[c]?) (hg : W'.heap[g]? = W.heap[g]?) : PW w0 W' q t g v :=
  ⟨⟨h.tw.st.of_blocks hk, hr, hb, h.tw.ge⟩, h.rt.of_block hg, h.ap⟩

set_option maxRecDepth 100000 in
set_option maxHeartbeats 8000000 in
theorem TrieCopies_any (w : World) (hR : RelsAt w) (base : Option Addr) (b o k c : Nat) (what a n val : Nat → Int) (h : ActsIn w base b o k what a n val) (hk : k ≤ 30) (xt xa xn xv yt ya yn yv : Int) (x0 : 0 ≤ xa) (x1 : xa < 4294967296) (y0 : 0 ≤ ya) (y1 : ya < 4294967296) :
    Calls Tryd.prog 7 #[.slice base k c, .agg #[.int .i64 xt, .int .u32 xa, .int .i64 xn, .int .i64 xv], .agg #[.int .i64 yt, .int .u32 ya, .int .i64 yn, .int .i64 yv]] w fun e w' => e = .returned (.bool true) ∧ Below w.heap.size w w' := by
  have t1 : decide ((30 : Int) < (k : Int)) = false := by simp; omega
  have b1 : Below w.heap.size w ((w.alloc (.cells #[.int .i64 xt, .int .u32 xa, .int .i64 xn, .int .i64 xv] 61)).alloc (.cells #[.int .i64 yt, .int .u32 ya, .int .i64 yn, .int .i64 yv] 61)) := ((Below.refl _ w).alloc (Nat.le_refl _) _).alloc (by simp) _
  have p0 : ((w.alloc (.cells #[.int .i64 xt, .int .u32 xa, .int .i64 xn, .int .i64 xv] 61)).alloc (.cells #[.int .i64 yt, .int .u32 ya, .int .i64 yn, .int .i64 yv] 61)).heap[w.heap.size]? = some (.cells #[.int .i64 xt, .int .u32 xa, .int .i64 xn, .int .i64 xv] 61 (0, 0)) := (Below.heap_alloc _ _ _ (by simp)).trans (World.alloc_heap_new w _)
  have p1 : ((w.alloc (.cells #[.int .i64 xt, .int .u32 xa, .int .i64 xn, .int .i64 xv] 61)).alloc (.cells #[.int .i64 yt, .int .u32 ya, .int .i64 yn, .int .i64 yv] 61)).heap[w.heap.size + 1]? = some (.cells #[.int .i64 yt, .int .u32 ya, .int .i64 yn, .int .i64 yv] 61 (0, 0)) := by
    have := World.alloc_heap_new (w.alloc (.cells #[.int .i64 xt, .int .u32 xa, .int .i64 xn, .int .i64 xv] 61)) (.cells #[.int .i64 yt, .int .u32 ya, .int .i64 yn, .int .i64 yv] 61)
    rwa [World.size_alloc] at this
  have HPly := Lib.hid (played_any _ (hR.below b1) base b o k c what a n val (h.below b1) (by omega))
  have HB1 := Lib.hid b1
  have HP0 := Lib.hid p0
  have HP1 := Lib.hid p1
  clear b1 p0 p1 h hR
  go_enter Tryd.func7, Tryd.ntmps7
  go_upto_region 3 with fail
  generalize ((w.alloc (.cells #[.int .i64 xt, .int .u32 xa, .int .i64 xn, .int .i64 xv] 61)).alloc (.cells #[.int .i64 yt, .int .u32 ya, .int .i64 yn, .int .i64 yv] 61)) = X at *
  go_upto_region 4 with (first
    | (go_at_call 10; with_reducible refine HPly.out.mono ?_; rintro e w2 ⟨q, t, g, v, rfl, hpw, hlen⟩; obtain ⟨sb, sc, rfl, _, _⟩ := hpw.rt.ex; have HPW := Lib.hid hpw; have HLen := Lib.hid hlen; clear hpw hlen)
    | fail)
  have hYs : (w2.alloc (.cells #[.slice sb t.rows.length sc] 31)).heap.size = w2.heap.size + 1 := by simp
  have HB2 := Lib.hid (bthen HPW.out.tw.bl ((Below.refl _ w2).alloc (Nat.le_refl _) (.cells #[.slice sb t.rows.length sc] 31)))
  have HW := Lib.hid (HPW.out.below ((Below.refl _ w2).alloc (Nat.le_refl _) (.cells #[.slice sb t.rows.length sc] 31)))
  have HO := Lib.hid (OneB.new w2 (.slice sb t.rows.length sc) 31)
  have HQl := Lib.hid (show ∀ i ∈ q :: t.blocks, i < w2.heap.size ∧ X.heap.size ≤ i from fun i hm => ⟨by
    rcases List.mem_cons.1 hm with e | hm
    · have := HPW.out.tw.st.lt; omega
    · exact HPW.out.tw.st.here.lt hm, HPW.out.tw.ge i hm⟩)
  have hgB := HPW.out.rt.lt
  generalize (w2.alloc (.cells #[.slice sb t.rows.length sc] 31)) = Y at *
  have hX2 := HPW.out.tw.bl.size
  generalize w2.heap.size = B at *
  clear HPW
  go_upto_region 5 with (first
    | (go_at_call 31; with_reducible refine (Copy_any q t Y HW.out.tw.st).mono ?_; rintro e w3 ⟨r, tc, rfl, hst, hrw, hge, hb⟩; have HSt := Lib.hid hst; have HRw := Lib.hid hrw; have HGe := Lib.hid hge; have HB3 := Lib.hid hb; clear hst hrw hge hb)
    | fail)
  have h3s := HB3.out.size
  have HCl3 := Lib.hid (show ∀ i, i < X.heap.size → w3.heap[i]? = X.heap[i]? from fun i hi => (HB3.out.block i (by omega)).trans (HB2.out.block i hi))
  have hX := (Array.getElem?_eq_some_iff.1 HP0.out).1
  have hX1 := (Array.getElem?_eq_some_iff.1 HP1.out).1
  have c8 := (HO.out.below HB3.out).c
  have u0 := (HCl3.out _ hX).trans HP0.out
  have d0 : w3.cell? ⟨w.heap.size, 0, none⟩ = some (.int .i64 xt) := by simp [World.cell?, u0]
  have d1 : w3.cell? ⟨w.heap.size, 1, none⟩ = some (.int .u32 xa) := by simp [World.cell?, u0]
  have d2 : w3.cell? ⟨w.heap.size, 2, none⟩ = some (.int .i64 xn) := by simp [World.cell?, u0]
  have d3 : w3.cell? ⟨w.heap.size, 3, none⟩ = some (.int .i64 xv) := by simp [World.cell?, u0]
  have HW3 := Lib.hid (HW.out.below HB3.out)
  have HA := Lib.hid (act_any X q g t _ xt xa xn xv w3 HW3.out x0 x1 (by have := HLen.out; omega))
  clear u0
  go_upto_region 6 with (first
    | (go_at_call 27; (with_reducible refine HA.out.mono ?_); rintro e w4 ⟨q1, s1, g1, v1, rfl, hA, hl1⟩; obtain ⟨sb1, sc1, rfl, _, _⟩ := hA.pw.rt.ex; have HA1 := Lib.hid hA; have HL1 := Lib.hid hl1; clear hA hl1 c8 d0 d1 d2 d3)
    | fail)
  have HRl := Lib.hid (show ∀ i ∈ r :: tc.blocks, i < w3.heap.size ∧ Y.heap.size ≤ i from fun i hm => ⟨by
    rcases List.mem_cons.1 hm with e | hm
    · have := HSt.out.lt; omega
    · exact HSt.out.here.lt hm, HGe.out i hm⟩)
  have hA1s := HA1.out.kb.size
  have HK1 := Lib.hid (show ∀ i, i < w3.heap.size → (i < X.heap.size ∨ B ≤ i) → w4.heap[i]? = w3.heap[i]? from fun i hi hc => HA1.out.kb.block i hi (fun hm => by have := HQl.out i hm; omega))
  have hZ : Below w4.heap.size w4 (w4.alloc (.cells #[.slice sb1 s1.rows.length sc1] 31)) := (Below.refl _ _).alloc (Nat.le_refl _) _
  have HO1 := Lib.hid (OneB.new w4 (.slice sb1 s1.rows.length sc1) 31)
  have HPc := Lib.hid (show PW X (w4.alloc (.cells #[.slice sb1 s1.rows.length sc1] 31)) r tc g (.agg #[.slice sb t.rows.length sc]) from by
    have hg4 : w4.heap[g]? = w3.heap[g]? := HA1.out.kb.block g (by omega) HW3.out.ap
    refine PW.below (W := w4) ⟨⟨HSt.out.of_blocks fun i hm => HK1.out i (HRl.out i hm).1 (.inr (by have := (HRl.out i hm).2; omega)), HA1.out.pw.tw.rel, HA1.out.pw.tw.bl, fun i hm => by have := (HRl.out i hm).2; omega⟩, ?_, fun hm => by have := (HRl.out g hm).2; omega⟩ hZ
    rw [HRw.out]
    exact HW3.out.rt.of_block hg4)
  have HPq := Lib.hid (HA1.out.pw.below hZ)
  have hZs := hZ.size
  have h8 : OneB (w4.alloc (.cells #[.slice sb1 s1.rows.length sc1] 31)) B (.slice sb t.rows.length sc) 31 := ((show OneB w4 B (.slice sb t.rows.length sc) 31 from (HK1.out B (by omega) (.inr (Nat.le_refl _))).trans (HO.out.below HB3.out))).below hZ
  have hx1 : (w4.alloc (.cells #[.slice sb1 s1.rows.length sc1] 31)).heap[w.heap.size + 1]? = some (.cells #[.int .i64 yt, .int .u32 ya, .int .i64 yn, .int .i64 yv] 61 (0, 0)) := (hZ.block _ (by omega)).trans ((HK1.out _ (by omega) (.inl hX1)).trans ((HCl3.out _ hX1).trans HP1.out))
  generalize (w4.alloc (.cells #[.slice sb1 s1.rows.length sc1] 31)) = Z at *
  have c8 := h8.c
  have d0 : Z.cell? ⟨w.heap.size + 1, 0, none⟩ = some (.int .i64 yt) := by simp [World.cell?, hx1]
  have d1 : Z.cell? ⟨w.heap.size + 1, 1, none⟩ = some (.int .u32 ya) := by simp [World.cell?, hx1]
  have d2 : Z.cell? ⟨w.heap.size + 1, 2, none⟩ = some (.int .i64 yn) := by simp [World.cell?, hx1]
  have d3 : Z.cell? ⟨w.heap.size + 1, 3, none⟩ = some (.int .i64 yv) := by simp [World.cell?, hx1]
  have HAc := Lib.hid (act_any X r g tc _ yt ya yn yv Z HPc.out y0 y1 (by rw [HRw.out]; have := HLen.out; omega))
  clear h8 hx1 hZ
  go_upto_region 7 with (first
    | (go_at_call 27; (with_reducible refine HAc.out.mono ?_); rintro e w5 ⟨r2, s2, g2, v2, rfl, hA, hl2⟩; obtain ⟨sb2, sc2, rfl, _, _⟩ := hA.pw.rt.ex; have HA2 := Lib.hid hA; have HL2 := Lib.hid hl2; clear hA hl2 c8 d0 d1 d2 d3)
    | fail)
  have HV0 := Lib.hid ((Below.refl _ w5).alloc (Nat.le_refl _) (.cells #[.slice sb2 s2.rows.length sc2] 31))
  have hq5 : PW X w5 q1 s1 g1 (.agg #[.slice sb1 s1.rows.length sc1]) := HPq.out.keep HA2.out.pw.tw.bl HA2.out.pw.tw.rel (fun i hm => HA2.out.kb.block i (by
      rcases List.mem_cons.1 hm with e | hm
      · have := HPq.out.tw.st.lt; omega
      · exact HPq.out.tw.st.here.lt hm) (fun hr => by
      have h5 := HRl.out i hr
      rcases HA1.out.nb i hm with h6 | h6
      · have := HQl.out i h6; omega
      · omega)) (HA2.out.kb.block g1 HPq.out.rt.lt (fun hr => by
      have h5 := HRl.out g1 hr
      rcases HA1.out.ng with h6 | h6
      · omega
      · omega))
  have ho1 : OneB w5 w4.heap.size (.slice sb1 s1.rows.length sc1) 31 := (HA2.out.kb.block _ HO1.out.lt (fun hr => by have := HRl.out _ hr; omega)).trans HO1.out
  have HO2 := Lib.hid (OneB.new w5 (.slice sb2 s2.rows.length sc2) 31)
  have HQ := Lib.hid (hq5.below HV0.out)
  have HC := Lib.hid (HA2.out.pw.below HV0.out)
  have HO1 := Lib.hid (ho1.below HV0.out)
  generalize (w5.alloc (.cells #[.slice sb2 s2.rows.length sc2] 31)) = V at *
  generalize w5.heap.size = B2 at *
  generalize w4.heap.size = B1 at *
  clear hq5 ho1 HPq HPc HA1 HA2
  have hlen1 := HL1.out
  have hlen2 := HL2.out
  rw [HRw.out] at hlen2
  have hlen0 := HLen.out
  have HSm := Lib.hid (show Calls Tryd.prog 32 #[.slice sb1 s1.rows.length sc1, .slice sb2 s2.rows.length sc2] V fun e w' => e = .returned (.bool (decide (s1.rows = s2.rows))) ∧ Below V.heap.size V w' from by
    obtain ⟨e1, e2, he1, hr1, _⟩ := HQ.out.rt.ex
    obtain ⟨f1, f2, he2, hr2, _⟩ := HC.out.rt.ex
    cases he1
    cases he2
    exact rSame_any _ _ _ _ _ _ _ _ V hr1 hr2 (by omega) HQ.out.tw.st.wf.lenR)
  have HS1 := Lib.hid (show ∀ W, Below V.heap.size V W → Calls Tryd.prog 23 #[.pointer (some ⟨q1, 0, none⟩), .pointer (some ⟨r2, 0, none⟩)] W fun e w' => e = .returned (.bool (decide (s1.rows = s2.rows))) ∧ Below W.heap.size W w' from fun W hb => Same_any q1 r2 s1 s2 W (HQ.out.below hb).tw.st (HC.out.below hb).tw.st (by omega) (by omega))
  have HS2 := Lib.hid (show ∀ W, Below V.heap.size V W → Calls Tryd.prog 23 #[.pointer (some ⟨r2, 0, none⟩), .pointer (some ⟨q1, 0, none⟩)] W fun e w' => e = .returned (.bool (decide (s1.rows = s2.rows))) ∧ Below W.heap.size W w' from fun W hb => by
    have h5 := Same_any r2 q1 s2 s1 W (HC.out.below hb).tw.st (HQ.out.below hb).tw.st (by omega) (by omega)
    have e5 : decide (s2.rows = s1.rows) = decide (s1.rows = s2.rows) := by rw [decide_eq_decide]; exact eq_comm
    rwa [e5] at h5)
  generalize decide (s1.rows = s2.rows) = sm at *
  have HI1 := Lib.hid (fun W (hb : Below V.heap.size V W) => is_any q1 g1 s1 _ W (HQ.out.below hb).tw.st (HQ.out.below hb).rt (by omega))
  have HI2 := Lib.hid (fun W (hb : Below V.heap.size V W) => is_any r2 g2 s2 _ W (HC.out.below hb).tw.st (HC.out.below hb).rt (by omega))
  have HCell := Lib.hid (show ∀ W, Below V.heap.size V W → W.cell? ⟨B1, 0, none⟩ = some (.slice sb1 s1.rows.length sc1) ∧ W.cell? ⟨B2, 0, none⟩ = some (.slice sb2 s2.rows.length sc2) from fun W hb => ⟨(HO1.out.below hb).c, (HO2.out.below hb).c⟩)
  obtain ⟨c1, c2⟩ := HCell.out V (Below.refl _ _)
  have HU := Lib.hid (Below.refl V.heap.size V)
  clear hlen0 hlen1 hlen2
  go_wp2_with (first
    | (go_at_call 32; with_reducible refine HSm.out.mono ?_; rintro e w6 ⟨rfl, hb⟩; have HU := Lib.hid hb; clear c1 c2 hb; obtain ⟨c1, c2⟩ := HCell.out _ HU.out)
    | (go_at_call 30; with_reducible refine (HI1.out _ HU.out).mono ?_; rintro e w6 ⟨rfl, hb⟩; have HU := Lib.hid (bthen HU.out hb); clear c1 c2 hb; obtain ⟨c1, c2⟩ := HCell.out _ HU.out)
    | (go_at_call 30; with_reducible refine (HI2.out _ HU.out).mono ?_; rintro e w6 ⟨rfl, hb⟩; have HU := Lib.hid (bthen HU.out hb); clear c1 c2 hb; obtain ⟨c1, c2⟩ := HCell.out _ HU.out)
    | (go_at_call 23; with_reducible refine (HS1.out _ HU.out).mono ?_; rintro e w6 ⟨rfl, hb⟩; have HU := Lib.hid (bthen HU.out hb); clear c1 c2 hb; obtain ⟨c1, c2⟩ := HCell.out _ HU.out)
    | (go_at_call 23; with_reducible refine (HS2.out _ HU.out).mono ?_; rintro e w6 ⟨rfl, hb⟩; have HU := Lib.hid (bthen HU.out hb); clear c1 c2 hb; obtain ⟨c1, c2⟩ := HCell.out _ HU.out)
    | (go_at_call 9; with_reducible refine (works_any _ (HC.out.below HU.out).tw.rel).mono ?_; rintro e w6 ⟨rfl, hb⟩; have HU := Lib.hid (bthen HU.out hb); clear c1 c2 hb)
    | fail)
  go_ret
  exact ⟨by simp, bthen HB1.out (bthen HC.out.tw.bl HU.out)⟩
end Go.Proofs.YtbacahoihkpkpaaDoor
