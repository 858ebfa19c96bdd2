/- The law's act: one call by both. (Printed by gen_u8.py.) -/
import Derived.Test.YtbacahoihkpkpaaDoorU7
import Derived.Test.YtbacahoihkpkpaaDoorL1
namespace Go.Proofs.YtbacahoihkpkpaaDoor
open Go.RowKit Go.Shelf Go.Maps

theorem Acted.set {w0 w W : World} {q g q' g' : Nat} {t t' : TT} {v' : Value} (h : Acted w0 w W q t g q' t' g' v') (h0 : w0.heap.size ≤ w.heap.size) {B : Nat} (hB : w.heap.size ≤ B) (hn : B ∉ q' :: t'.blocks) (hg : B ≠ g') (hz : 0 < B) (o : Nat) (u : Value) : Acted w0 w (W.setCell ⟨B, o, none⟩ u) q t g q' t' g' v' := by
  refine ⟨⟨⟨h.pw.tw.st.of_blocks fun c hc => heapS _ _ _ _ c (fun e => hn (e ▸ hc)), h.pw.tw.rel.kp (heapS _ _ _ _ 0 (by omega)), h.pw.tw.bl.setCell (p := ⟨B, o, none⟩) (by simp; omega) u, h.pw.tw.ge⟩, h.pw.rt.of_block (heapS _ _ _ _ _ (fun e => hg e.symm)), h.pw.ap⟩, ?_, h.nb, h.ng⟩
  exact ⟨h.kb.os, h.kb.tape, h.kb.output, by have := h.kb.size; simpa using this, fun i hi hm => (heapS _ _ _ _ i (by omega)).trans (h.kb.block i hi hm)⟩
theorem Acted.below {w0 w W W' : World} {q g q' g' : Nat} {t t' : TT} {v' : Value} (h : Acted w0 w W q t g q' t' g' v') (hb : Below W.heap.size W W') : Acted w0 w W' q t g q' t' g' v' :=
  ⟨h.pw.below hb, h.kb.trans (KB.of_below hb), h.nb, h.ng⟩
/-- what act leaves -/
def ActP (w0 w w' : World) (q : Nat) (t : TT) (g : Nat) (e : Ending) : Prop :=
  ∃ q' t' g' v', e = .returned (.tuple #[.pointer (some ⟨q', 0, none⟩), v', .bool true]) ∧ Acted w0 w w' q t g q' t' g' v' ∧ t'.rows.length ≤ t.rows.length + 1
/-- the three boxes of act -/
structure AB (w W : World) (v : Value) (wt a n x : Int) : Prop where
  b0 : OneB W w.heap.size v 31
  b1 : W.heap[w.heap.size + 1]? = some (.cells #[.int .i64 wt, .int .u32 a, .int .i64 n, .int .i64 x] 61 (0, 0))
  b2 : OneB W (w.heap.size + 1 + 1) (.slice none 0 0) 31
  bl : Below w.heap.size w W
section
variable {w W : World} {v : Value} {wt a n x : Int} (h : AB w W v wt a n x)
include h
theorem AB.sz : w.heap.size + 1 + 1 < W.heap.size := h.b2.lt
theorem AB.below {W' : World} (hb : Below W.heap.size W W') : AB w W' v wt a n x := ⟨h.b0.below hb, (hb.block _ (by have := h.sz; omega)).trans h.b1, h.b2.below hb, bthen h.bl hb⟩
theorem AB.a0 : W.cell? ⟨w.heap.size + 1, 0, none⟩ = some (.int .i64 wt) := by simp [World.cell?, h.b1]
theorem AB.a1 : W.cell? ⟨w.heap.size + 1, 1, none⟩ = some (.int .u32 a) := by simp [World.cell?, h.b1]
theorem AB.a2 : W.cell? ⟨w.heap.size + 1, 2, none⟩ = some (.int .i64 n) := by simp [World.cell?, h.b1]
theorem AB.a3 : W.cell? ⟨w.heap.size + 1, 3, none⟩ = some (.int .i64 x) := by simp [World.cell?, h.b1]
end
theorem AB.start (w : World) (v : Value) (wt a n x : Int) : AB w (((w.alloc (.cells #[v] 31)).alloc (.cells #[.int .i64 wt, .int .u32 a, .int .i64 n, .int .i64 x] 61)).alloc (.cells #[.slice none 0 0] 31)) v wt a n x := by
  refine ⟨((OneB.new w v 31).alloc _).alloc _, ?_, ?_, (((Below.refl _ _).alloc (Nat.le_refl _) _).alloc (by simp) _).alloc (by simp; omega) _⟩
  · refine (Below.heap_alloc _ _ _ (by simp)).trans ?_
    have := World.alloc_heap_new (w.alloc (.cells #[v] 31)) (.cells #[.int .i64 wt, .int .u32 a, .int .i64 n, .int .i64 x] 61)
    rwa [World.size_alloc] at this
  · have := OneB.new ((w.alloc (.cells #[v] 31)).alloc (.cells #[.int .i64 wt, .int .u32 a, .int .i64 n, .int .i64 x] 61)) (.slice none 0 0) 31
    simpa using this

set_option maxRecDepth 100000 in
set_option maxHeartbeats 8000000 in
theorem act_put (w0 : World) (q g : Nat) (t : TT) (v : Value) (wt a n x : Int) (w : World) (h : PW w0 w q t g v) (hw : 0 ≤ wt ∧ wt ≤ 3) (a0 : 0 ≤ a) (a1 : a < 4294967296) (hl : t.rows.length < 500) :
    Calls Tryd.prog 27 #[.pointer (some ⟨q, 0, none⟩), v, .agg #[.int .i64 wt, .int .u32 a, .int .i64 n, .int .i64 x]] w fun e w' => ActP w0 w w' q t g e := by
  obtain ⟨o, hh, en, L', ⟨hR, hP⟩, hlen⟩ := putB_ex w0 q t g v a n x h.tw.st.wf a0 a1 hl
  have HPW := Lib.hid h
  obtain ⟨base, cap, rfl, _, _⟩ := h.rt.ex
  have HAB0 := Lib.hid (AB.start w (.slice base t.rows.length cap) wt a n x)
  have HR := Lib.hid hR
  have HP := Lib.hid hP
  have HLen := Lib.hid hlen
  have c0 := HAB0.out.b0.c
  have c1 := HAB0.out.a0
  have c2 := HAB0.out.a1
  have c3 := HAB0.out.a2
  have c4 := HAB0.out.a3
  clear hR hP h hlen
  go_enter Tryd.func27, Tryd.ntmps27
  go_upto_region 1 with fail
  have HX := Lib.hid (show (((w.alloc (.cells #[.slice base t.rows.length cap] 31)).alloc (.cells #[.int .i64 wt, .int .u32 a, .int .i64 n, .int .i64 x] 61)).alloc (.cells #[.slice none 0 0] 31)).heap.size = w.heap.size + 3 by simp)
  generalize (((w.alloc (.cells #[.slice base t.rows.length cap] 31)).alloc (.cells #[.int .i64 wt, .int .u32 a, .int .i64 n, .int .i64 x] 61)).alloc (.cells #[.slice none 0 0] 31)) = X at *
  have HC := Lib.hid (And.intro c1 (And.intro c2 (And.intro c3 (And.intro c4 c0))))
  clear c0 c1 c2 c3 c4
  obtain rfl | rfl | rfl | rfl : wt = 0 ∨ wt = 1 ∨ wt = 2 ∨ wt = 3 := by omega
  all_goals
    obtain ⟨c1, c2, c3, c4, c0⟩ := HC.out
    go_upto_region 8 with (first
      | (go_at_call 50; (with_reducible refine (HR.out _ (HPW.out.rt.below HAB0.out.bl)).mono ?_); rintro e2 w2 ⟨v', g', rfl, hrt, hg, hb⟩; obtain ⟨b', k', rfl, _, _⟩ := hrt.ex; have HRt := Lib.hid hrt; have HG := Lib.hid hg; have HB := Lib.hid hb; have HAB := Lib.hid (HAB0.out.below hb); clear c0 c1 c2 c3 c4 hrt hg hb; have c2 := HAB.out.a1; have c3 := HAB.out.a2; have c4 := HAB.out.a3; have y1 : w.heap.size + 1 < w2.heap.size := (by have := HAB.out.sz; omega))
      | (go_at_call 14; (with_reducible refine (HP.out _ (HPW.out.tw.below (bthen HAB.out.bl ((Below.refl _ _).alloc (Nat.le_refl _) _)))).mono ?_); rintro e3 w3 ⟨rfl, t', hwt, hrw⟩; have HWt := Lib.hid hwt; have HRw := Lib.hid hrw; clear c2 c3 c4 hwt hrw)
      | fail)
    have hkp : ∀ i, w.heap.size ≤ i → i < w2.heap.size + 1 → w3.heap[i]? = (w2.alloc (.cells #[.slice b' L'.length k'] 31)).heap[i]? := fun i h1 h2 => HWt.out.kb.block i (by simpa using h2) (fun hm => by
      rcases List.mem_cons.1 hm with e | hm
      · have := HPW.out.tw.st.lt; omega
      · have := HPW.out.tw.st.here.lt hm; omega)
    have hz := HAB.out.sz
    have b9 : OneB w3 w2.heap.size (.slice b' L'.length k') 31 := (hkp _ (by omega) (by omega)).trans (OneB.new w2 _ 31)
    have b2 : OneB w3 (w.heap.size + 1 + 1) (.slice none 0 0) 31 := (hkp _ (by omega) (by omega)).trans (HAB.out.b2.alloc _)
    have d9 := b9.c
    have d2 := b2.c
    have d3 := b2.f
    have hne : w.heap.size + 1 + 1 ≠ w2.heap.size := by omega
    clear hkp b9 b2
    go_region_held3 (fun w' => w'.cell? ⟨w2.heap.size, 0, none⟩ = some (.slice b' L'.length k'))
      (first | exact (set_far (by omega)).trans d9 | go_keep)
      ((go_at_call 17; with_reducible refine (num_any en _).mono ?_; rintro e4 w4 ⟨rfl, rfl⟩))
    all_goals
      go_wp2_with fail
      have hA := Acted.mk2 (w4 := w3) HPW.out (bthen HAB0.out.bl HB.out) HRt.out (by rcases HG.out with e | e; exact .inl e; exact .inr (by have := HAB0.out.bl.size; omega)) ((Below.refl _ w2).alloc (Nat.le_refl _) _) HWt.out HRw.out (Below.refl _ w3)
      have hA1 := hA.set HPW.out.tw.bl.size (B := w.heap.size + 1 + 1) (by omega) (fun hm => by
        rcases List.mem_cons.1 hm with e | hm
        · have := HPW.out.tw.st.lt; omega
        · rcases HWt.out.new _ hm with h5 | h5
          · have := HPW.out.tw.st.here.lt h5; omega
          · simp at h5; omega) (by rcases HG.out with e | e; (have := HPW.out.rt.lt; omega); (have := HX.out; omega)) (by omega) 0 (.slice b' L'.length k')
      have hq : OneB (w3.setCell ⟨w.heap.size + 1 + 1, 0, none⟩ (.slice b' L'.length k')).drew (w.heap.size + 1 + 1) (.slice b' L'.length k') 31 := OneB.set (t := 31) (v := .slice none 0 0) (W := w3) _ (by
        show w3.heap[_]? = _
        have := HWt.out.kb.block (w.heap.size + 1 + 1) (by simp; omega) (fun hm => by
          rcases List.mem_cons.1 hm with e | hm
          · have := HPW.out.tw.st.lt; omega
          · have := HPW.out.tw.st.here.lt hm; omega)
        exact this.trans (HAB.out.b2.alloc _))
      have hA2 := hA1.below (Below.refl _ _).drew
      generalize (w3.setCell ⟨w.heap.size + 1 + 1, 0, none⟩ (.slice b' L'.length k')).drew = V at *
      have q0 := hq.c
      exact bodyPost_ret (v := .tuple #[.pointer (some ⟨q, 0, none⟩), .agg #[.slice b' L'.length k'], .bool true]) (by simp [results, Tryd.results27, go_sem, q0]) rfl ⟨_, t', g', _, rfl, hA2, by have h1 := HRw.out; have h2 := HLen.out; rw [h1]; exact h2⟩

set_option maxRecDepth 100000 in
set_option maxHeartbeats 8000000 in
theorem act_take (w0 : World) (q g : Nat) (t : TT) (v : Value) (wt a n x : Int) (w : World) (h : PW w0 w q t g v) (hw : 4 ≤ wt ∧ wt ≤ 5) (a0 : 0 ≤ a) (a1 : a < 4294967296) (hl : t.rows.length < 500) :
    Calls Tryd.prog 27 #[.pointer (some ⟨q, 0, none⟩), v, .agg #[.int .i64 wt, .int .u32 a, .int .i64 n, .int .i64 x]] w fun e w' => ActP w0 w w' q t g e := by
  obtain ⟨o, hh, en, L', ⟨hR, hP⟩, hlen⟩ := takeB_ex w0 q t g v a n h.tw.st.wf a0 a1 hl
  have HPW := Lib.hid h
  obtain ⟨base, cap, rfl, _, _⟩ := h.rt.ex
  have HAB0 := Lib.hid (AB.start w (.slice base t.rows.length cap) wt a n x)
  have HR := Lib.hid hR
  have HP := Lib.hid hP
  have HLen := Lib.hid hlen
  have c0 := HAB0.out.b0.c
  have c1 := HAB0.out.a0
  have c2 := HAB0.out.a1
  have c3 := HAB0.out.a2
  have c4 := HAB0.out.a3
  clear hR hP h hlen
  go_enter Tryd.func27, Tryd.ntmps27
  go_upto_region 1 with fail
  have HX := Lib.hid (show (((w.alloc (.cells #[.slice base t.rows.length cap] 31)).alloc (.cells #[.int .i64 wt, .int .u32 a, .int .i64 n, .int .i64 x] 61)).alloc (.cells #[.slice none 0 0] 31)).heap.size = w.heap.size + 3 by simp)
  generalize (((w.alloc (.cells #[.slice base t.rows.length cap] 31)).alloc (.cells #[.int .i64 wt, .int .u32 a, .int .i64 n, .int .i64 x] 61)).alloc (.cells #[.slice none 0 0] 31)) = X at *
  have HC := Lib.hid (And.intro c1 (And.intro c2 (And.intro c3 (And.intro c4 c0))))
  clear c0 c1 c2 c3 c4
  obtain rfl | rfl : wt = 4 ∨ wt = 5 := by omega
  all_goals
    obtain ⟨c1, c2, c3, c4, c0⟩ := HC.out
    go_upto_region 13 with (first
      | (go_at_call 51; (with_reducible refine (HR.out _ (HPW.out.rt.below HAB0.out.bl)).mono ?_); rintro e2 w2 ⟨v', g', rfl, hrt, hg, hb⟩; obtain ⟨b', k', rfl, _, _⟩ := hrt.ex; have HRt := Lib.hid hrt; have HG := Lib.hid hg; have HB := Lib.hid hb; have HAB := Lib.hid (HAB0.out.below hb); clear c0 c1 c2 c3 c4 hrt hg hb; have c2 := HAB.out.a1; have c3 := HAB.out.a2; have c4 := HAB.out.a3; have y1 : w.heap.size + 1 < w2.heap.size := (by have := HAB.out.sz; omega))
      | (go_at_call 19; (with_reducible refine (HP.out _ (HPW.out.tw.below (bthen HAB.out.bl ((Below.refl _ _).alloc (Nat.le_refl _) _)))).mono ?_); rintro e3 w3 ⟨rfl, t', hwt, hrw⟩; have HWt := Lib.hid hwt; have HRw := Lib.hid hrw; clear c2 c3 c4 hwt hrw)
      | fail)
    have hkp : ∀ i, w.heap.size ≤ i → i < w2.heap.size + 1 → w3.heap[i]? = (w2.alloc (.cells #[.slice b' L'.length k'] 31)).heap[i]? := fun i h1 h2 => HWt.out.kb.block i (by simpa using h2) (fun hm => by
      rcases List.mem_cons.1 hm with e | hm
      · have := HPW.out.tw.st.lt; omega
      · have := HPW.out.tw.st.here.lt hm; omega)
    have hz := HAB.out.sz
    have b9 : OneB w3 w2.heap.size (.slice b' L'.length k') 31 := (hkp _ (by omega) (by omega)).trans (OneB.new w2 _ 31)
    have b2 : OneB w3 (w.heap.size + 1 + 1) (.slice none 0 0) 31 := (hkp _ (by omega) (by omega)).trans (HAB.out.b2.alloc _)
    have d9 := b9.c
    have d2 := b2.c
    have d3 := b2.f
    have hne : w.heap.size + 1 + 1 ≠ w2.heap.size := by omega
    clear hkp b9 b2
    go_region_held3 (fun w' => w'.cell? ⟨w2.heap.size, 0, none⟩ = some (.slice b' L'.length k'))
      (first | exact (set_far (by omega)).trans d9 | go_keep)
      ((go_at_call 17; with_reducible refine (num_any en _).mono ?_; rintro e4 w4 ⟨rfl, rfl⟩))
    all_goals
      go_wp2_with fail
      have hA := Acted.mk2 (w4 := w3) HPW.out (bthen HAB0.out.bl HB.out) HRt.out (by rcases HG.out with e | e; exact .inl e; exact .inr (by have := HAB0.out.bl.size; omega)) ((Below.refl _ w2).alloc (Nat.le_refl _) _) HWt.out HRw.out (Below.refl _ w3)
      have hA1 := hA.set HPW.out.tw.bl.size (B := w.heap.size + 1 + 1) (by omega) (fun hm => by
        rcases List.mem_cons.1 hm with e | hm
        · have := HPW.out.tw.st.lt; omega
        · rcases HWt.out.new _ hm with h5 | h5
          · have := HPW.out.tw.st.here.lt h5; omega
          · simp at h5; omega) (by rcases HG.out with e | e; (have := HPW.out.rt.lt; omega); (have := HX.out; omega)) (by omega) 0 (.slice b' L'.length k')
      have hq : OneB (w3.setCell ⟨w.heap.size + 1 + 1, 0, none⟩ (.slice b' L'.length k')).drew (w.heap.size + 1 + 1) (.slice b' L'.length k') 31 := OneB.set (t := 31) (v := .slice none 0 0) (W := w3) _ (by
        show w3.heap[_]? = _
        have := HWt.out.kb.block (w.heap.size + 1 + 1) (by simp; omega) (fun hm => by
          rcases List.mem_cons.1 hm with e | hm
          · have := HPW.out.tw.st.lt; omega
          · have := HPW.out.tw.st.here.lt hm; omega)
        exact this.trans (HAB.out.b2.alloc _))
      have hA2 := hA1.below (Below.refl _ _).drew
      generalize (w3.setCell ⟨w.heap.size + 1 + 1, 0, none⟩ (.slice b' L'.length k')).drew = V at *
      have q0 := hq.c
      exact bodyPost_ret (v := .tuple #[.pointer (some ⟨q, 0, none⟩), .agg #[.slice b' L'.length k'], .bool true]) (by simp [results, Tryd.results27, go_sem, q0]) rfl ⟨_, t', g', _, rfl, hA2, by have h1 := HRw.out; have h2 := HLen.out; rw [h1]; exact h2⟩
end Go.Proofs.YtbacahoihkpkpaaDoor
