/- The reference: Put. (Printed by gen_u4.py.) -/
import Derived.Test.YtbacahoihkpkpaaDoorU3
namespace Go.Proofs.YtbacahoihkpkpaaDoor
open Go.RowKit Go.Shelf Go.Maps
open Go.Sort (grow)

theorem src_new (w : World) (cs : Array Value) (t : TypeId) (size : Nat) (h : cs.size = size) : Src (w.alloc (.cells cs t)) (some ⟨w.heap.size, 0, none⟩) 1 size cs.toList := by
  refine Src.of_cells (by simpa using h) fun j u hj => ?_
  rw [add0, Nat.zero_add]
  have hb : (w.alloc (.cells cs t)).heap[w.heap.size]? = some (.cells cs t (0, 0)) := World.alloc_heap_new w _
  rw [cell_heap hb]
  simpa using hj
theorem Src.grown {w W : World} {b o m size : Nat} {news : List Value} {r : Option Nat} (h : Src w (some ⟨b, o, none⟩) m size news) (hg : w.grownBy W r) (hr : r ≠ some b) : Src W (some ⟨b, o, none⟩) m size news :=
  ⟨h.1, fun j u hj => by
    obtain ⟨ad, e, hc⟩ := h.2 j u hj
    cases e
    exact ⟨_, rfl, hg.cell hc (by rw [add_blk]; exact fun e => hr e.symm)⟩⟩
theorem rC_one (x : Key × Int) : ∀ u ∈ rC x, u.oneCell' = true := by
  intro u hu
  simp [rC] at hu
  rcases hu with rfl | rfl | rfl <;> rfl
theorem ahd_key (L : List (Key × Int)) (p : Key) : ahd (ka p) p.length L = aheadR L p := by
  unfold ahd aheadR
  congr 1
  congr 1
  funext x
  unfold ahB
  rw [decide_eq_decide]
  exact ka_ord x.1 p

set_option maxRecDepth 100000 in
set_option maxHeartbeats 4000000 in
theorem rPut_arg (v : Value) (g : Nat) (L : List (Key × Int)) (a n x : Int) (w : World) (hS : RT w g v L) (a0 : 0 ≤ a) (a1 : a < 4294967296) (hr : rightB a n = false) :
    Calls Tryd.prog 50 #[v, .agg #[.int .u32 a, .int .i64 n], .int .i64 x] w fun e w' => e = .returned (.tuple #[v, .int .i64 0, .bool false, .int .i64 2]) ∧ RT w' g v L ∧ Below w.heap.size w w' := by
  have HS0 := Lib.hid hS
  obtain ⟨base, cap, rfl, _, _⟩ := hS.ex
  have HT0 := Lib.hid (TB.start w (.slice base L.length cap) a n (.slice none 0 0))
  have HK := Lib.hid (fun W => rRight_any a n W a0 a1)
  rw [hr] at HK
  clear hr hS
  go_enter Tryd.func50, Tryd.ntmps50
  go_upto_region 2 with (go_at_call 40; with_reducible refine (HK.out _).mono ?_; rintro e w1 ⟨rfl, hb⟩; have HT := Lib.hid (HT0.out.below hb); have d0 := HT.out.b0.c; have e0 := HT.out.b2.c; have e1 := HT.out.b2.f; clear hb)
  go_wp2_with fail
  have hT := HT.out.set (.slice base L.length cap)
  generalize (w1.setCell ⟨w.heap.size + 1 + 1, 0, none⟩ (.slice base L.length cap)) = V at *
  have c0 := hT.b2.c
  exact bodyPost_ret (v := .tuple #[.agg #[.slice base L.length cap], .int .i64 0, .bool false, .int .i64 2]) (by simp [results, Tryd.results50, go_sem, c0]) rfl ⟨rfl, HS0.out.below hT.bl, hT.bl⟩

set_option maxRecDepth 100000 in
set_option maxHeartbeats 4000000 in
theorem rPut_long (v : Value) (g : Nat) (L : List (Key × Int)) (a n x : Int) (w : World) (hS : RT w g v L) (hl : L.length ≤ 1000000) (h512 : 512 ≤ L.length) (a0 : 0 ≤ a) (a1 : a < 4294967296) (hr : rightB a n = true) (hi : atI a n L = none) :
    Calls Tryd.prog 50 #[v, .agg #[.int .u32 a, .int .i64 n], .int .i64 x] w fun e w' => e = .returned (.tuple #[v, .int .i64 0, .bool false, .int .i64 3]) ∧ RT w' g v L ∧ Below w.heap.size w w' := by
  have HS0 := Lib.hid hS
  have HA := Lib.hid (fun W (h : RT W g v L) => rAt_any v g L a n W h hl)
  rw [hi] at HA
  obtain ⟨base, cap, rfl, _, _⟩ := hS.ex
  have HT0 := Lib.hid (TB.start w (.slice base L.length cap) a n (.slice none 0 0))
  have HK := Lib.hid (fun W => rRight_any a n W a0 a1)
  rw [hr] at HK
  dsimp only [atV] at HA
  have t1 : decide ((512 : Int) ≤ (L.length : Int)) = true := by (simp; omega)
  clear hr hS hi
  go_enter Tryd.func50, Tryd.ntmps50
  go_upto_region 10 with (first
    | (go_at_call 40; with_reducible refine (HK.out _).mono ?_; rintro e w1 ⟨rfl, hb⟩; have HT := Lib.hid (HT0.out.below hb); have d0 := HT.out.b0.c; have d1 := HT.out.b1.c0; have d2 := HT.out.b1.c1; clear hb)
    | (go_at_call 29; with_reducible refine (HA.out _ (HS0.out.below HT.out.bl)).mono ?_; rintro e w1 ⟨rfl, hb⟩; have HT := Lib.hid (HT.out.below hb); clear d0 d1 d2; have d0 := HT.out.b0.c; have e0 := HT.out.b2.c; have e1 := HT.out.b2.f; clear hb)
    | fail)
  go_wp2_with fail
  have hT := HT.out.set (.slice base L.length cap)
  generalize (w1.setCell ⟨w.heap.size + 1 + 1, 0, none⟩ (.slice base L.length cap)) = V at *
  have c0 := hT.b2.c
  exact bodyPost_ret (v := .tuple #[.agg #[.slice base L.length cap], .int .i64 0, .bool false, .int .i64 3]) (by simp [results, Tryd.results50, go_sem, c0]) rfl ⟨rfl, HS0.out.below hT.bl, hT.bl⟩

theorem rl_set {W : World} {g i : Nat} {L : List (Key × Int)} {p : Key} {u : Int} (h : RL W (some ⟨g, 0, none⟩) g 0 L) (hx : L[i]? = some (p, u)) (v : Int) : RL (W.setCell ⟨g, i * 3 + 2, none⟩ (.int .i64 v)) (some ⟨g, 0, none⟩) g 0 (L.set i (p, v)) := by
  have hil := (List.getElem?_eq_some_iff.1 hx).1
  obtain ⟨_, z0, z1, z2⟩ := h.row i _ hx
  simp only [Nat.zero_add] at z0 z1 z2
  have ho : ∀ o, o ≠ i * 3 + 2 → (W.setCell ⟨g, i * 3 + 2, none⟩ (.int .i64 v)).cell? ⟨g, o, none⟩ = W.cell? ⟨g, o, none⟩ := fun o hne => World.cell?_setCell_other _ _ _ _ (fun e => hne (by injection e with _ e; first | exact e | exact e.symm))
  refine ⟨by simpa [World.setCell] using h.lt, fun j x hj => ?_⟩
  simp only [Nat.zero_add]
  by_cases e : j = i
  · subst e
    rw [List.getElem?_set_self hil] at hj
    cases hj
    exact ⟨by trivial, (ho _ (by omega)).trans z0, (ho _ (by omega)).trans z1, World.cell?_setCell_same' _ _ _ (by rw [z2]; rfl)⟩
  · rw [List.getElem?_set_ne (Ne.symm e)] at hj
    obtain ⟨_, k0, k1, k2⟩ := h.row j x hj
    simp only [Nat.zero_add] at k0 k1 k2
    exact ⟨by trivial, (ho _ (by omega)).trans k0, (ho _ (by omega)).trans k1, (ho _ (by omega)).trans k2⟩

set_option maxRecDepth 100000 in
set_option maxHeartbeats 4000000 in
theorem rPut_old (v : Value) (g : Nat) (L : List (Key × Int)) (a n x : Int) (i : Nat) (p : Key) (u : Int) (w : World) (hS : RT w g v L) (hl : L.length ≤ 1000) (a0 : 0 ≤ a) (a1 : a < 4294967296) (hr : rightB a n = true) (hi : atI a n L = some i) (hx : L[i]? = some (p, u)) :
    Calls Tryd.prog 50 #[v, .agg #[.int .u32 a, .int .i64 n], .int .i64 x] w fun e w' => (∃ v' g', e = .returned (.tuple #[v', .int .i64 u, .bool true, .int .i64 0]) ∧ RT w' g' v' (L.set i (p, x)) ∧ w.heap.size ≤ g') ∧ Below w.heap.size w w' := by
  have HS0 := Lib.hid hS
  have HA := Lib.hid (fun W (h : RT W g v L) => rAt_any v g L a n W h (by omega))
  rw [hi] at HA
  obtain ⟨base, cap, rfl, hrl, hcap⟩ := hS.ex
  have hil : i < L.length := (List.getElem?_eq_some_iff.1 hx).1
  obtain ⟨rfl, _, _, _⟩ := hrl.row i _ hx
  have HT0 := Lib.hid (TB.start w (.slice (some ⟨g, 0, none⟩) L.length cap) a n (.slice none 0 0))
  have HK := Lib.hid (fun W => rRight_any a n W a0 a1)
  rw [hr] at HK
  dsimp only [atV] at HA
  have HRl := Lib.hid hrl
  have HX := Lib.hid hx
  have i1 : (0 : Int) ≤ (i : Int) := by omega
  have i2 : (i : Int) < (L.length : Int) := by omega
  have hgl := hrl.lt
  clear hr hS hi hrl hx
  go_enter Tryd.func50, Tryd.ntmps50
  go_upto_region 5 with (first
    | (go_at_call 40; with_reducible refine (HK.out _).mono ?_; rintro e w1 ⟨rfl, hb⟩; have HT := Lib.hid (HT0.out.below hb); have d0 := HT.out.b0.c; have d1 := HT.out.b1.c0; have d2 := HT.out.b1.c1; clear hb)
    | (go_at_call 29; with_reducible refine (HA.out _ (HS0.out.below HT.out.bl)).mono ?_; rintro e w1 ⟨rfl, hb⟩; have HT := Lib.hid (HT.out.below hb); clear d0 d1 d2; have d0 := HT.out.b0.c; clear hb)
    | fail)
  obtain ⟨i0, hii, hz0, hz1, hz2⟩ := info_parts info37
  have BA : Below w1.heap.size w1 (w1.alloc (.cells #[] 37)) := (Below.refl _ w1).alloc (Nat.le_refl _) _
  have RA : (w1.alloc (.cells #[] 37)).ownsRow w1.heap.size 37 3 (.slice (some ⟨w1.heap.size, 0, none⟩) 0 0) 0 [] := World.ownsRow_made w1 #[] 0 (Nat.le_refl _) (by unfold maxLen; omega) rfl
  have SA := ((HRl.out.below HT.out.bl).below BA).src
  have x0 : w.heap.size < w1.heap.size := by have := HT.out.sz; omega
  go_upto_region 6 with (at_builtin; refine wpList_append_src _ rfl _ _ _ rfl w1.heap.size 37 i0 _ 3 24 Tryd.underlying29 hii hz0 hz1 hz2 rfl (by omega) (.slice (some ⟨w1.heap.size, 0, none⟩) 0 0) 0 [] rfl RA (by simp) (some ⟨g, 0, none⟩) L.length cap (rCs L) rfl SA (rCs_one _) L.length (by omega) (rCs L) rfl (by unfold maxLen; omega) (by omega) BA.size ?_; intro g1 c1 w7 hown1 hgrow1 hg1 hat1; have hB := BA.grown hgrow1 BA.size (fun k e => by simp [Value.ownBlock] at e; omega))
  have hrt := rt_of_row hown1 rfl
  obtain ⟨b1, cap1, he, hrl1, hcap1⟩ := hrt.ex
  cases he
  have HB := Lib.hid hB
  have HT7 := Lib.hid (HT.out.below hB)
  have HRl1 := Lib.hid hrl1
  obtain ⟨_, z0, z1, z2⟩ := hrl1.row i _ HX.out
  simp only [Nat.zero_add] at z0 z1 z2
  have fz : ∀ j, w7.frozen? ⟨g1, j, none⟩ = false := fun j => hown1.frozenAt j
  have HG1 := Lib.hid hg1
  have HRs := Lib.hid (rl_set hrl1 HX.out x)
  clear z0 z1 d0 hown1 hgrow1 hat1 hg1 hB BA RA SA hrl1 hrt
  go_upto_region 8 with fail
  have hsz1 := HT.out.sz
  have ne2 : g1 ≠ w.heap.size + 1 + 1 := by have := HG1.out; omega
  have hTs : TB w (w7.setCell ⟨g1, i * 3 + 2, none⟩ (.int .i64 x)) (.slice (some ⟨g, 0, none⟩) L.length cap) a n (.slice none 0 0) :=
    ⟨HT7.out.b0.other (by have := HG1.out; omega), HT7.out.b1.other (by have := HG1.out; omega), HT7.out.b2.other (fun e => ne2 e.symm), HT7.out.bl.setCell (p := ⟨g1, i * 3 + 2, none⟩) (by have := HG1.out; simp; omega) _⟩
  have HTs := Lib.hid hTs
  clear z2 fz hTs
  generalize (w7.setCell ⟨g1, i * 3 + 2, none⟩ (.int .i64 x)) = V7 at *
  have e0 := HTs.out.b2.c
  have e1 := HTs.out.b2.f
  go_wp2_with fail
  have hT := HTs.out.set (.slice (some ⟨g1, 0, none⟩) L.length c1)
  have hr7 := HRs.out.of_block (Below.heap_setCell V7 ⟨w.heap.size + 1 + 1, 0, none⟩ (.slice (some ⟨g1, 0, none⟩) L.length c1) g1 ne2)
  generalize (V7.setCell ⟨w.heap.size + 1 + 1, 0, none⟩ (.slice (some ⟨g1, 0, none⟩) L.length c1)) = V at *
  have c0 := hT.b2.c
  exact bodyPost_ret (v := .tuple #[.agg #[.slice (some ⟨g1, 0, none⟩) L.length c1], .int .i64 u, .bool true, .int .i64 0]) (by simp [results, Tryd.results50, go_sem, c0]) rfl ⟨⟨_, rfl, g1, ⟨some ⟨g1, 0, none⟩, c1, by rw [List.length_set], hr7, by rw [List.length_set]; exact hcap1⟩, by have := HG1.out; omega⟩, hT.bl⟩
end Go.Proofs.YtbacahoihkpkpaaDoor
