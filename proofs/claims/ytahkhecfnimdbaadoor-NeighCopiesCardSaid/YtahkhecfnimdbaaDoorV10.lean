/- The reference: Hear of the first neighbour. -/
import Derived.Test.YtahkhecfnimdbaaDoorV9
namespace Go.Proofs.YtahkhecfnimdbaaDoor
open Go.RowKit Go.Maps

set_option maxHeartbeats 4000000 in
set_option maxRecDepth 100000 in
theorem rHear_new_none (cap : Nat) (now lost f a nw bad : Int) (w : World) (a0 : 0 ≤ a) (a1 : a < 4294967296) (hB : argB f a bad = true)
    (n0 : 0 ≤ now) (n1 : now ≤ nw) (n2 : nw ≤ 4611686018427387904) (hb1 : bad ≤ 9223372036854775807) :
    Calls Tryd.prog 34 #[RN none 0 cap now lost, .int .i64 f, .int .u32 a, .int .i64 nw, .int .i64 bad] w
      fun e w' => (∃ v, e = .returned (.tuple #[v, .int .i64 0]) ∧ RNew w w' v (insT [] ⟨f, a, nw, 1, addC 0 bad⟩) nw lost) ∧ Below w.heap.size w w' := by
  have K := Lib.hid (fun W => rKind_any a W a0 a1)
  have HX0 := Lib.hid (HBx.start w (.slice none 0 cap) (.int .i64 now) (.int .i64 lost))
  obtain ⟨g1, g2, g3, g4⟩ := argB_iff.1 hB
  have t1 : decide (f < 0) = false := by simp; omega
  have t2 : decide (15 < f) = false := by simp; omega
  have t3 : (kindI a != 6) = false := by simp [g3]
  have t4 : decide (bad < 0) = false := by simp; omega
  have h5 := timeB_of n0 n1 n2
  have t5 : decide (nw < now) = false := by simp; omega
  have hN : atN f a [] = -1 := rfl
  obtain ⟨i0, hii, hz0, hz1, hz2⟩ := info_parts info40
  clear g1 g2 g3 hB
  go_enter Tryd.func34, Tryd.ntmps34
  go_upto_region 6 with (first
      | (go_at_call 44; refine (K.out _).mono ?_; rintro e w1 ⟨rfl, hb⟩; have hx := HX0.out.below hb; have d0 := hx.d0; have d1 := hx.d1; have d2 := hx.d2; have e0 := hx.e0; have e1 := hx.e1; have e2 := hx.e2; have f0 := hx.f0; have f1 := hx.f1; have HX := Lib.hid hx; clear hx hb)
      | (go_at_call 45; refine (Time_any _ _).mono ?_; rw [h5]; rintro e w2 ⟨rfl, rfl⟩)
      | fail)
  clear d0 d1 d2 e0 e1 e2 f0 f1
  have hx5 : HBx w (w1.setCell ⟨w.heap.size, 1, none⟩ (.int .i64 nw)) (.slice none 0 cap) (.int .i64 nw) (.int .i64 lost) := HX.out.set 1 (.int .i64 nw)
  generalize w1.setCell ⟨w.heap.size, 1, none⟩ (.int .i64 nw) = W5 at *
  clear HX
  have d0 := hx5.d0
  have y0 : w.heap.size < W5.heap.size := by have := hx5.sz; omega
  have HX5 := Lib.hid hx5
  clear hx5
  go_upto_region 7 with fail
  have hb53 : Below W5.heap.size W5 (W5.alloc (.cells #[] 40)) := below_k _ _
  have hgl : W5.heap.size < (W5.alloc (.cells #[] 40)).heap.size := by simp
  have hglw : w.heap.size + 1 < W5.heap.size := HX5.out.sz
  generalize W5.alloc (.cells #[] 40) = w3 at *
  generalize hgq : W5.heap.size = gl at *
  have hx3 := HX5.out.below (by rw [hgq]; exact hb53)
  have hx4 := hx3.below (below_k w3 (rnObj none 0 cap nw lost))
  have hA := At_any none 0 cap [] nw lost f a w3 (SL.none (by omega)) (by simp)
  rw [hN] at hA
  have HA := Lib.hid hA
  have p0 := hx3.d0
  have p1 := hx3.d1
  have p2 := hx3.d2
  have HX4 := Lib.hid hx4
  have HGQ := Lib.hid hgq
  clear hA hx3 hx4 d0 hgq
  go_upto_region 17 with (go_at_call 19; refine HA.out.mono ?_; rintro e w4 ⟨rfl, rfl⟩)
  have hX2 : gl < (w3.alloc (rnObj none 0 cap nw lost)).heap.size := by simp; omega
  clear p0 p1 p2
  generalize w3.alloc (rnObj none 0 cap nw lost) = w4 at *
  go_upto_block 0 with fail
  go_cut [14] (fun s wx => s = .int .i64 0 ∧ wx = w4)
  case first => as_aux_lemma =>
    go_wp2_with fail
    go_loopg [14] 0 (fun n v wr => v = .int .i64 0 ∧ wr = w4)
    case atStart => exact ⟨rfl, rfl⟩
    case round =>
      obtain ⟨rfl, rfl⟩ := hrel
      go_wp2_with fail
      go_meet
      exact ⟨rfl, rfl⟩
  case rest =>
    obtain ⟨rfl, rfl⟩ := hcut
    go_upto_region 21 with (go_at_call 46; refine (sum_any 0 bad _ (by omega) (by omega) g4 hb1).mono ?_; rintro e w' ⟨rfl, rfl⟩)
    have BX := below_k wc (.cells #[.int .i64 f, .int .u32 a, .int .i64 nw, .int .i64 1, .int .i64 (addC 0 bad)] 40)
    have HXX := Lib.hid (HX4.out.below BX)
    have x0 : (wc.alloc (.cells #[.int .i64 f, .int .u32 a, .int .i64 nw, .int .i64 1, .int .i64 (addC 0 bad)] 40)).cell? ⟨wc.heap.size, 0, none⟩ = some (.int .i64 f) := by simp [go_sem]
    have x1 : (wc.alloc (.cells #[.int .i64 f, .int .u32 a, .int .i64 nw, .int .i64 1, .int .i64 (addC 0 bad)] 40)).cell? ⟨wc.heap.size, 1, none⟩ = some (.int .u32 a) := by simp [go_sem]
    have x2 : (wc.alloc (.cells #[.int .i64 f, .int .u32 a, .int .i64 nw, .int .i64 1, .int .i64 (addC 0 bad)] 40)).cell? ⟨wc.heap.size, 2, none⟩ = some (.int .i64 nw) := by simp [go_sem]
    have x3 : (wc.alloc (.cells #[.int .i64 f, .int .u32 a, .int .i64 nw, .int .i64 1, .int .i64 (addC 0 bad)] 40)).cell? ⟨wc.heap.size, 3, none⟩ = some (.int .i64 1) := by simp [go_sem]
    have x4 : (wc.alloc (.cells #[.int .i64 f, .int .u32 a, .int .i64 nw, .int .i64 1, .int .i64 (addC 0 bad)] 40)).cell? ⟨wc.heap.size, 4, none⟩ = some (.int .i64 (addC 0 bad)) := by simp [go_sem]
    have xs : wc.heap.size < (wc.alloc (.cells #[.int .i64 f, .int .u32 a, .int .i64 nw, .int .i64 1, .int .i64 (addC 0 bad)] 40)).heap.size := by simp
    have HWS := Lib.hid (show (wc.alloc (.cells #[.int .i64 f, .int .u32 a, .int .i64 nw, .int .i64 1, .int .i64 (addC 0 bad)] 40)).heap.size = wc.heap.size + 1 by simp)
    have hX1 := HX4.out.sz
    clear BX
    generalize wc.alloc (.cells #[.int .i64 f, .int .u32 a, .int .i64 nw, .int .i64 1, .int .i64 (addC 0 bad)] 40) = W at *
    generalize wc.heap.size = X at *
    have hgsz : gl < W.heap.size := by have h2 := HWS.out; omega
    have hne : X ≠ w.heap.size := by omega
    have hneg : w.heap.size ≠ X := Ne.symm hne
    have BA : Below W.heap.size W (W.alloc (.cells #[] 40)).drew := ((Below.refl _ W).alloc (Nat.le_refl _) _).drew
    have BB : Below W.heap.size W ((W.alloc (.cells #[] 40)).alloc (.cells #[.int .i64 f, .int .u32 a, .int .i64 nw, .int .i64 1, .int .i64 (addC 0 bad)] 40)).drew := (((Below.refl _ W).alloc (Nat.le_refl _) _).alloc (by simp) _).drew
    have BC : Below W.heap.size W ((W.alloc (.cells #[.int .i64 f, .int .u32 a, .int .i64 nw, .int .i64 1, .int .i64 (addC 0 bad)] 40)).alloc (.cells #[] 40)).drew := (((Below.refl _ W).alloc (Nat.le_refl _) _).alloc (by simp) _).drew
    have RA0 : (W.alloc (.cells #[] 40)).ownsRow W.heap.size 40 5 (.slice (some ⟨W.heap.size, 0, none⟩) 0 0) 0 [] := World.ownsRow_made W #[] 0 (Nat.le_refl _) (by unfold maxLen; omega) rfl
    have RA : (W.alloc (.cells #[] 40)).drew.ownsRow W.heap.size 40 5 (.slice (some ⟨W.heap.size, 0, none⟩) 0 0) 0 [] := RA0
    have RB : ((W.alloc (.cells #[] 40)).alloc (.cells #[.int .i64 f, .int .u32 a, .int .i64 nw, .int .i64 1, .int .i64 (addC 0 bad)] 40)).drew.ownsRow W.heap.size 40 5 (.slice (some ⟨W.heap.size, 0, none⟩) 0 0) 0 [] := RA0.alloc _
    have RC : ((W.alloc (.cells #[.int .i64 f, .int .u32 a, .int .i64 nw, .int .i64 1, .int .i64 (addC 0 bad)] 40)).alloc (.cells #[] 40)).drew.ownsRow W.heap.size 40 5 (.slice (some ⟨W.heap.size + 1, 0, none⟩) 0 0) 0 [] := by
      have := World.ownsRow_made (base := W.heap.size) (e := 40) (size := 5) (W.alloc (.cells #[.int .i64 f, .int .u32 a, .int .i64 nw, .int .i64 1, .int .i64 (addC 0 bad)] 40)) #[] 0 (by simp) (by unfold maxLen; omega) rfl
      rw [World.size_alloc] at this
      exact this
    clear RA0
    have CB := Lib.hid (show ∀ (j : Nat) (u : Value), (nC ⟨f, a, nw, 1, addC 0 bad⟩)[j]? = some u → ((W.alloc (.cells #[] 40)).alloc (.cells #[.int .i64 f, .int .u32 a, .int .i64 nw, .int .i64 1, .int .i64 (addC 0 bad)] 40)).drew.cell? ((⟨W.heap.size + 1, 0, none⟩ : Addr).add j) = some u by
      have := cells_five_new (W.alloc (.cells #[] 40)) (.int .i64 f) (.int .u32 a) (.int .i64 nw) (.int .i64 1) (.int .i64 (addC 0 bad)) 40
      rw [World.size_alloc] at this
      exact this)
    have CC := Lib.hid (show ∀ (j : Nat) (u : Value), (nC ⟨f, a, nw, 1, addC 0 bad⟩)[j]? = some u → ((W.alloc (.cells #[.int .i64 f, .int .u32 a, .int .i64 nw, .int .i64 1, .int .i64 (addC 0 bad)] 40)).alloc (.cells #[] 40)).drew.cell? ((⟨W.heap.size, 0, none⟩ : Addr).add j) = some u from fun j u hj =>
      cell_below ((below_k _ _).drew) (cells_five_new W (.int .i64 f) (.int .u32 a) (.int .i64 nw) (.int .i64 1) (.int .i64 (addC 0 bad)) 40 j u hj))
    go_region_held3 (fun w' => w'.cell? ⟨X, 0, none⟩ = some (.int .i64 f) ∧ w'.cell? ⟨X, 1, none⟩ = some (.int .u32 a) ∧ w'.cell? ⟨X, 2, none⟩ = some (.int .i64 nw) ∧ w'.cell? ⟨X, 3, none⟩ = some (.int .i64 1) ∧ w'.cell? ⟨X, 4, none⟩ = some (.int .i64 (addC 0 bad)))
      (first | go_keep | exact ⟨cell_below hB x0, cell_below hB x1, cell_below hB x2, cell_below hB x3, cell_below hB x4⟩)
      (first
        | (refine step_append_at _ (by rfl) _ _ _ (by rfl) W.heap.size 40 i0 _ 5 40 Tryd.underlying45 hii hz0 hz1 hz2 rfl (by omega) (.slice (some ⟨W.heap.size, 0, none⟩) 0 0) 0 [] (by rfl) RA (by simp) ⟨gl, 0, none⟩ 0 0 [] (by rfl) (by rfl) (fun j u h => by simp at h) (fun u h => by simp at h) 0 (by omega) [] (by rfl) (by unfold maxLen; omega) (by omega) BA.size ?_; intro g1 c1 w7 hown1 hgrow1 hg1 hat1; have hB := BA.grown hgrow1 BA.size (fun k e => by simp [Value.ownBlock] at e; omega); have HO1 := Lib.hid hown1; have HG1 := Lib.hid hg1; clear hown1 hgrow1 hat1 hg1)
        | (refine step_append_at _ (by rfl) _ _ _ (by rfl) W.heap.size 40 i0 _ 5 40 Tryd.underlying45 hii hz0 hz1 hz2 rfl (by omega) (.slice (some ⟨W.heap.size, 0, none⟩) 0 0) 0 [] (by rfl) RB (by simp) ⟨gl, 0, none⟩ 0 0 [] (by rfl) (by rfl) (fun j u h => by simp at h) (fun u h => by simp at h) 0 (by omega) [] (by rfl) (by unfold maxLen; omega) (by omega) BB.size ?_; intro g1 c1 w7 hown1 hgrow1 hg1 hat1; have hB := BB.grown hgrow1 BB.size (fun k e => by simp [Value.ownBlock] at e; omega); have HO1 := Lib.hid hown1; have HG1 := Lib.hid hg1; have HXC := Lib.hid (fun j u hj => hgrow1.cell (CB.out j u hj) (by rw [add_block]; simp [Value.ownBlock])); clear hown1 hgrow1 hat1 hg1)
        | (refine step_append_at _ (by rfl) _ _ _ (by rfl) W.heap.size 40 i0 _ 5 40 Tryd.underlying45 hii hz0 hz1 hz2 rfl (by omega) (.slice (some ⟨W.heap.size + 1, 0, none⟩) 0 0) 0 [] (by rfl) RC (by simp) ⟨gl, 0, none⟩ 0 0 [] (by rfl) (by rfl) (fun j u h => by simp at h) (fun u h => by simp at h) 0 (by omega) [] (by rfl) (by unfold maxLen; omega) (by omega) BC.size ?_; intro g1 c1 w7 hown1 hgrow1 hg1 hat1; have hB := BC.grown hgrow1 BC.size (fun k e => by simp [Value.ownBlock] at e; omega); have HO1 := Lib.hid hown1; have HG1 := Lib.hid hg1; have HXC := Lib.hid (fun j u hj => hgrow1.cell (CC.out j u hj) (by rw [add_block]; simp [Value.ownBlock])); clear hown1 hgrow1 hat1 hg1)
        | (refine step_append_at (w7.alloc (.cells #[.int .i64 f, .int .u32 a, .int .i64 nw, .int .i64 1, .int .i64 (addC 0 bad)] 40)) (by rfl) _ _ _ (by rfl) W.heap.size 40 i0 _ 5 40 Tryd.underlying45 hii hz0 hz1 hz2 rfl (by omega) (.slice (some ⟨g1, 0, none⟩) 0 c1) 0 [] (by rfl) (HO1.out.alloc _) (by simp) ⟨w7.heap.size, 0, none⟩ 1 1 (nC ⟨f, a, nw, 1, addC 0 bad⟩) (by rfl) (by rfl) (cells_five_new _ _ _ _ _ _ _) (by simp [nC, Value.oneCell']) 1 (by omega) (nC ⟨f, a, nw, 1, addC 0 bad⟩) (by rfl) (by unfold maxLen; omega) (by omega) (bthen hB (below_k w7 (.cells #[.int .i64 f, .int .u32 a, .int .i64 nw, .int .i64 1, .int .i64 (addC 0 bad)] 40))).size ?_; intro g2 c2 w8 hown2 hgrow2 hg2 hat2; have hB2 := (bthen hB (below_k w7 (.cells #[.int .i64 f, .int .u32 a, .int .i64 nw, .int .i64 1, .int .i64 (addC 0 bad)] 40))).grown hgrow2 (bthen hB (below_k w7 (.cells #[.int .i64 f, .int .u32 a, .int .i64 nw, .int .i64 1, .int .i64 (addC 0 bad)] 40))).size (fun k e => by simp [Value.ownBlock] at e; have := HG1.out; omega); have hB := hB2; have HO2 := Lib.hid hown2; have HG2 := Lib.hid hg2; clear hown2 hgrow2 hat2 hg2 hB2)
        | (refine step_append_at w7 (by rfl) _ _ _ (by rfl) W.heap.size 40 i0 _ 5 40 Tryd.underlying45 hii hz0 hz1 hz2 rfl (by omega) (.slice (some ⟨g1, 0, none⟩) 0 c1) 0 [] (by rfl) HO1.out (by simp) ⟨W.heap.size + 1, 0, none⟩ 1 1 (nC ⟨f, a, nw, 1, addC 0 bad⟩) (by rfl) (by rfl) HXC.out (by simp [nC, Value.oneCell']) 1 (by omega) (nC ⟨f, a, nw, 1, addC 0 bad⟩) (by rfl) (by unfold maxLen; omega) (by omega) hB.size ?_; intro g2 c2 w8 hown2 hgrow2 hg2 hat2; have hB2 := hB.grown hgrow2 hB.size (fun k e => by simp [Value.ownBlock] at e; have := HG1.out; omega); have hB := hB2; have HO2 := Lib.hid hown2; have HG2 := Lib.hid hg2; clear hown2 hgrow2 hat2 hg2 hB2)
        | (refine step_append_at w7 (by rfl) _ _ _ (by rfl) W.heap.size 40 i0 _ 5 40 Tryd.underlying45 hii hz0 hz1 hz2 rfl (by omega) (.slice (some ⟨g1, 0, none⟩) 0 c1) 0 [] (by rfl) HO1.out (by simp) ⟨W.heap.size, 0, none⟩ 1 1 (nC ⟨f, a, nw, 1, addC 0 bad⟩) (by rfl) (by rfl) HXC.out (by simp [nC, Value.oneCell']) 1 (by omega) (nC ⟨f, a, nw, 1, addC 0 bad⟩) (by rfl) (by unfold maxLen; omega) (by omega) hB.size ?_; intro g2 c2 w8 hown2 hgrow2 hg2 hat2; have hB2 := hB.grown hgrow2 hB.size (fun k e => by simp [Value.ownBlock] at e; have := HG1.out; omega); have hB := hB2; have HO2 := Lib.hid hown2; have HG2 := Lib.hid hg2; clear hown2 hgrow2 hat2 hg2 hB2)
        | (refine step_append_at w8 (by rfl) _ _ _ (by rfl) W.heap.size 40 i0 _ 5 40 Tryd.underlying45 hii hz0 hz1 hz2 rfl (by omega) (.slice (some ⟨g2, 0, none⟩) 1 c2) 1 (nC ⟨f, a, nw, 1, addC 0 bad⟩) (by rfl) HO2.out (by simp) ⟨gl, 0, none⟩ 0 0 [] (by rfl) (by rfl) (fun j u h => by simp at h) (fun u h => by simp at h) 1 (by omega) (nCs [⟨f, a, nw, 1, addC 0 bad⟩]) (by rfl) (by unfold maxLen; omega) (by omega) hB.size ?_; intro g3 c3 w9 hown3 hgrow3 hg3 hat3; have hB3 := hB.grown hgrow3 hB.size (fun k e => by simp [Value.ownBlock] at e; have := HG2.out; omega); have hB := hB3; have HO3 := Lib.hid hown3; have HG3 := Lib.hid hg3; have hx9 := HXX.out.below hB; have d0 := hx9.d0; have f0 := hx9.f0; have x0 := cell_below hB x0; have x1 := cell_below hB x1; have x2 := cell_below hB x2; have x3 := cell_below hB x3; have x4 := cell_below hB x4; have HX9 := Lib.hid hx9; clear hown3 hgrow3 hat3 hg3 hB3 hx9))
    all_goals
      clear x0 x1 x2 x3 x4 d0 f0 BA BB BC RA RB RC
      have hx7 : HBx w (w9.setCell ⟨w.heap.size, 0, none⟩ (.slice (some ⟨g3, 0, none⟩) (1) c3)) (.slice (some ⟨g3, 0, none⟩) (1) c3) (.int .i64 nw) (.int .i64 lost) := HX9.out.set 0 _
      have hil : (insT [] ⟨f, a, nw, 1, addC 0 bad⟩).length = 1 := rfl
      have hox := HO3.out
      rw [← hil] at hox
      obtain ⟨b', g', c', he, hsl9, _⟩ := sl_of_row hox (by have := hB.size; omega)
      have hg' : b' = some ⟨g3, 0, none⟩ ∧ c' = c3 := by simp at he; exact ⟨he.1.symm, he.2.symm⟩
      obtain ⟨rfl, rfl⟩ := hg'
      have hgg : g' = g3 := by
        obtain ⟨q, hq⟩ := List.exists_mem_of_ne_nil (insT [] ⟨f, a, nw, 1, addC 0 bad⟩) (fun e => by rw [e] at hil; simp at hil)
        obtain ⟨j, hj, _⟩ := List.mem_iff_getElem.1 hq
        obtain ⟨e, _⟩ := hsl9.row j _ (List.getElem?_eq_getElem hj)
        simpa using e.symm
      subst hgg
      have ne0 : g' ≠ w.heap.size := by have := HG3.out; omega
      have ne1 : g' ≠ w.heap.size + 1 := by have := HG3.out; omega
      have hs7 := hsl9.of_block (Below.heap_setCell w9 ⟨w.heap.size, 0, none⟩ (.slice (some ⟨g', 0, none⟩) (1) c') g' ne0)
      have HS7 := Lib.hid hs7
      have HX7 := Lib.hid hx7
      have HIL := Lib.hid hil
      clear hx7 hs7 hsl9 hox he hil
      generalize w9.setCell ⟨w.heap.size, 0, none⟩ (.slice (some ⟨g', 0, none⟩) (1) c') = w7' at *
      have d0 := HX7.out.d0
      have d1 := HX7.out.d1
      have d2 := HX7.out.d2
      have e0 := HX7.out.e0
      have e1 := HX7.out.e1
      have e2 := HX7.out.e2
      have f0 := HX7.out.f0
      have f1 := HX7.out.f1
      go_wp2_with fail
      all_goals
        obtain ⟨c0, c1', c2'⟩ := cells3_of (HX7.out.out (.slice (some ⟨g', 0, none⟩) (1) c') (.int .i64 nw) (.int .i64 lost))
        exact bodyPost_ret (v := .tuple #[RN (some ⟨g', 0, none⟩) (1) c' nw lost, .int .i64 0]) (by simp [results, Tryd.results34, go_sem, c0, c1', c2']) rfl ⟨⟨_, rfl, some ⟨g', 0, none⟩, g', c', by rw [HIL.out], HS7.out.of_block (HX7.out.outO _ _ _ ne1)⟩, HX7.out.outB _ _ _⟩
end Go.Proofs.YtahkhecfnimdbaaDoor
