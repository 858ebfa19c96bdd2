/- The reference: Take of a prefix that is there. -/
import Derived.Test.YtbacahoihkpkpaaDoorU2
namespace Go.Proofs.YtbacahoihkpkpaaDoor
open Go.RowKit Go.Shelf Go.Maps

theorem rt_of_row {W : World} {B g cap : Nat} {L : List (Key × Int)} {N : Nat} (h : W.ownsRow B 37 3 (.slice (some ⟨g, 0, none⟩) N cap) N (rCs L)) (hN : L.length = N) : RT W g (.agg #[.slice (some ⟨g, 0, none⟩) N cap]) L := by
  subst hN
  have hlt : g < W.heap.size := by
    rcases h.2 with ⟨h0, _⟩ | ⟨g', c', cur, hv, hb, hh, _⟩
    · cases h0
    · cases hv
      exact (Array.getElem?_eq_some_iff.1 hh).1
  obtain ⟨base, g', cap', he, hr, _, hc⟩ := rl_of_row h (by omega)
  cases he
  refine ⟨some ⟨g, 0, none⟩, cap, rfl, ?_, hc⟩
  by_cases hL : L = []
  · subst hL
    exact RL.nilAny hlt _ _
  · obtain ⟨x, hx⟩ := List.exists_mem_of_ne_nil L hL
    obtain ⟨j, hj, _⟩ := List.mem_iff_getElem.1 hx
    obtain ⟨e, _⟩ := hr.row j _ (List.getElem?_eq_getElem hj)
    cases e
    exact hr

set_option maxRecDepth 100000 in
set_option maxHeartbeats 4000000 in
theorem rTake_yes (v : Value) (g : Nat) (L : List (Key × Int)) (a n : Int) (i : Nat) (x : Key × Int) (w : World) (hS : RT w g v L) (hl : L.length ≤ 1000) (a0 : 0 ≤ a) (a1 : a < 4294967296) (hr : rightB a n = true) (hi : atI a n L = some i) (hx : L[i]? = some x) :
    Calls Tryd.prog 51 #[v, .agg #[.int .u32 a, .int .i64 n]] w fun e w' => (∃ v' g', e = .returned (.tuple #[v', .int .i64 x.2, .bool true, .int .i64 0]) ∧ RT w' g' v' (delR L i) ∧ w.heap.size ≤ g') ∧ Below w.heap.size w w' := by
  have HS0 := Lib.hid hS
  have HA := Lib.hid (fun W (h : RT W g v L) => rAt_any v g L a n W h (by omega))
  rw [hi] at HA
  obtain ⟨base, cap, rfl, hrl, hcap⟩ := hS.ex
  have hil : i < L.length := (List.getElem?_eq_some_iff.1 hx).1
  obtain ⟨rfl, _, _, _⟩ := hrl.row i x hx
  have HT0 := Lib.hid (TB.start w (.slice (some ⟨g, 0, none⟩) L.length cap) a n (.slice none 0 0))
  have HK := Lib.hid (fun W => rRight_any a n W a0 a1)
  rw [hr] at HK
  dsimp only [atV] at HA
  have HRl := Lib.hid hrl
  have HX := Lib.hid hx
  have i1 : (0 : Int) ≤ (i : Int) := by omega
  have i2 : (i : Int) < (L.length : Int) := by omega
  have hgl := hrl.lt
  clear hr hS hi hrl hx
  go_enter Tryd.func51, Tryd.ntmps51
  go_upto_region 6 with (first
    | (go_at_call 40; with_reducible refine (HK.out _).mono ?_; rintro e w1 ⟨rfl, hb⟩; have HT := Lib.hid (HT0.out.below hb); have d0 := HT.out.b0.c; have d1 := HT.out.b1.c0; have d2 := HT.out.b1.c1; clear hb)
    | (go_at_call 29; with_reducible refine (HA.out _ (HS0.out.below HT.out.bl)).mono ?_; rintro e w1 ⟨rfl, hb⟩; have HT := Lib.hid (HT.out.below hb); clear d0 d1 d2; have d0 := HT.out.b0.c; have e0 := HT.out.b2.c; have e1 := HT.out.b2.f; clear hb)
    | fail)
  have hr1 := HRl.out.below HT.out.bl
  obtain ⟨_, z0, z1, z2⟩ := hr1.row i x HX.out
  simp only [Nat.zero_add] at z0 z1 z2
  have HR1 := Lib.hid hr1
  clear z0 z1 hr1
  go_upto_region 7 with fail
  clear z2
  obtain ⟨i0, hii, hz0, hz1, hz2⟩ := info_parts info37
  have BA : Below w1.heap.size w1 (w1.alloc (.cells #[] 37)).drew := ((Below.refl _ w1).alloc (Nat.le_refl _) _).drew
  have RA : (w1.alloc (.cells #[] 37)).drew.ownsRow w1.heap.size 37 3 (.slice (some ⟨w1.heap.size, 0, none⟩) 0 0) 0 [] := World.ownsRow_made w1 #[] 0 (Nat.le_refl _) (by unfold maxLen; omega) rfl
  have SA : Src (w1.alloc (.cells #[] 37)).drew (some ⟨g, 0, none⟩) i 3 (rCs (L.take i)) := by
    have := ((HR1.out.below BA).take i).src
    rwa [List.length_take, Nat.min_eq_left (by omega)] at this
  have SB := Lib.hid (fun W' (h : Below w1.heap.size w1 W') => (HR1.out.below h).cut (k := i + 1) (cap := cap) (by omega) hcap)
  have hdl : rCs (L.take i) ++ rCs (L.drop (i + 1)) = rCs (delR L i) := by unfold delR; rw [rCs_app]
  have hdn : (delR L i).length = L.length - 1 := by unfold delR; simp; omega
  have hsz := HT.out.sz
  have s1 : IntKind.i64.wrap ((i : Int) + 1) = (i : Int) + 1 := IntWalk.i64_in _ (by omega)
  have s2 : (0 : Int) ≤ (i : Int) + 1 := by omega
  have s3 : ((i : Int) + 1).toNat = i + 1 := by omega
  have s4 : (i : Int) + 1 ≤ (cap : Int) := by omega
  have s5 : (i : Int) + 1 ≤ (L.length : Int) := by omega
  have s6 : (i : Int) ≤ (cap : Int) := by omega
  have HDL := Lib.hid hdl
  have HDN := Lib.hid hdn
  clear hdl hdn
  by_cases hc : cap = i + 1
  · subst hc
    have s7 : (i : Int) ≤ (i : Int) + 1 := by omega
    have s8 : (L.length : Int) ≤ (i : Int) + 1 := by omega
    have hc : i + 1 = i + 1 := rfl
    have SB1 := Lib.hid (show ∀ W', Below w1.heap.size w1 W' → Src W' (some ⟨g, 0, none⟩) 0 3 (rCs (L.drop (i + 1))) from fun W' h => by
      have := SB.out W' h
      rwa [if_pos hc, show L.length - (i + 1) = 0 by omega] at this)
    clear hc
    go_region_held3 (fun w' => w'.cell? ⟨w.heap.size, 0, none⟩ = some (.slice (some ⟨g, 0, none⟩) L.length (i + 1)))
      (first | go_keep | exact cellL hB d0 | exact (set_far (by omega)).trans d0)
      (first
        | (refine step_append_src _ (by rfl) _ _ _ (by rfl) w1.heap.size 37 i0 _ 3 24 Tryd.underlying29 hii hz0 hz1 hz2 rfl (by omega) (.slice (some ⟨w1.heap.size, 0, none⟩) 0 0) 0 [] (by rfl) RA (by simp) (some ⟨g, 0, none⟩) i (i + 1) (rCs (L.take i)) (by rfl) SA (rCs_one _) i (by omega) (rCs (L.take i)) (by rfl) (by unfold maxLen; omega) (by omega) BA.size ?_; intro g1 c1 w7 hown1 hgrow1 hg1 hat1; have hB := BA.grown hgrow1 BA.size (fun k e => by simp [Value.ownBlock] at e; omega); have HO1 := Lib.hid hown1; have HG1 := Lib.hid hg1; clear hown1 hgrow1 hat1 hg1)
        | (refine step_append_src w7 (by rfl) _ _ _ (by rfl) w1.heap.size 37 i0 _ 3 24 Tryd.underlying29 hii hz0 hz1 hz2 rfl (by omega) (.slice (some ⟨g1, 0, none⟩) i c1) i (rCs (L.take i)) (by rfl) HO1.out (by simp) (some ⟨g, 0, none⟩) 0 0 (rCs (L.drop (i + 1))) (by rfl) (SB1.out _ hB) (rCs_one _) (L.length - 1) (by omega) (rCs (delR L i)) HDL.out (by unfold maxLen; omega) (by omega) hB.size ?_; intro g2 c2 w8 hown2 hgrow2 hg2 hat2; have hB2 := hB.grown hgrow2 hB.size (fun k e => by simp [Value.ownBlock] at e; have := HG1.out; omega); have hB := hB2; have HO2 := Lib.hid hown2; have HG2 := Lib.hid hg2; have hx9 := HT.out.below hB; have d0 := hx9.b0.c; have e0 := hx9.b2.c; have e1 := hx9.b2.f; have HX9 := Lib.hid hx9; clear hown2 hgrow2 hat2 hg2 hB2 hx9))
    all_goals
      clear e0 e1 d0
      have hsz1 := HT.out.sz
      have hx7 := HX9.out.set (.slice (some ⟨g2, 0, none⟩) (L.length - 1) c2)
      have ne2 : g2 ≠ w.heap.size + 1 + 1 := by have := HG2.out; omega
      have hr7 := (rt_of_row HO2.out HDN.out).of_block (Below.heap_setCell w8 ⟨w.heap.size + 1 + 1, 0, none⟩ (.slice (some ⟨g2, 0, none⟩) (L.length - 1) c2) g2 ne2)
      have HX7 := Lib.hid hx7
      have HR7 := Lib.hid hr7
      clear hx7 hr7
      go_wp2_with fail
      generalize (w8.setCell ⟨w.heap.size + 1 + 1, 0, none⟩ (.slice (some ⟨g2, 0, none⟩) (L.length - 1) c2)) = V at *
      have c0 := HX7.out.b2.c
      exact bodyPost_ret (v := .tuple #[.agg #[.slice (some ⟨g2, 0, none⟩) (L.length - 1) c2], .int .i64 x.2, .bool true, .int .i64 0]) (by simp [results, Tryd.results51, go_sem, c0]) rfl ⟨⟨_, rfl, g2, HR7.out, by have := HG2.out; omega⟩, HX7.out.bl⟩
  · have SB1 := Lib.hid (show ∀ W', Below w1.heap.size w1 W' → Src W' (some ⟨g, (i + 1) * 3, none⟩) (L.length - (i + 1)) 3 (rCs (L.drop (i + 1))) from fun W' h => by
      have := SB.out W' h
      rw [if_neg hc] at this
      simpa [add0] using this)
    go_region_held3 (fun w' => w'.cell? ⟨w.heap.size, 0, none⟩ = some (.slice (some ⟨g, 0, none⟩) L.length cap))
      (first | go_keep | exact cellL hB d0 | exact (set_far (by omega)).trans d0)
      (first
        | (refine step_append_src _ (by rfl) _ _ _ (by rfl) w1.heap.size 37 i0 _ 3 24 Tryd.underlying29 hii hz0 hz1 hz2 rfl (by omega) (.slice (some ⟨w1.heap.size, 0, none⟩) 0 0) 0 [] (by rfl) RA (by simp) (some ⟨g, 0, none⟩) i cap (rCs (L.take i)) (by rfl) SA (rCs_one _) i (by omega) (rCs (L.take i)) (by rfl) (by unfold maxLen; omega) (by omega) BA.size ?_; intro g1 c1 w7 hown1 hgrow1 hg1 hat1; have hB := BA.grown hgrow1 BA.size (fun k e => by simp [Value.ownBlock] at e; omega); have HO1 := Lib.hid hown1; have HG1 := Lib.hid hg1; clear hown1 hgrow1 hat1 hg1)
        | (refine step_append_src w7 (by rfl) _ _ _ (by rfl) w1.heap.size 37 i0 _ 3 24 Tryd.underlying29 hii hz0 hz1 hz2 rfl (by omega) (.slice (some ⟨g1, 0, none⟩) i c1) i (rCs (L.take i)) (by rfl) HO1.out (by simp) (some ⟨g, (i + 1) * 3, none⟩) (L.length - (i + 1)) (cap - (i + 1)) (rCs (L.drop (i + 1))) (by rfl) (SB1.out _ hB) (rCs_one _) (L.length - 1) (by omega) (rCs (delR L i)) HDL.out (by unfold maxLen; omega) (by omega) hB.size ?_; intro g2 c2 w8 hown2 hgrow2 hg2 hat2; have hB2 := hB.grown hgrow2 hB.size (fun k e => by simp [Value.ownBlock] at e; have := HG1.out; omega); have hB := hB2; have HO2 := Lib.hid hown2; have HG2 := Lib.hid hg2; have hx9 := HT.out.below hB; have d0 := hx9.b0.c; have e0 := hx9.b2.c; have e1 := hx9.b2.f; have HX9 := Lib.hid hx9; clear hown2 hgrow2 hat2 hg2 hB2 hx9))
    all_goals
      clear e0 e1 d0
      have hsz1 := HT.out.sz
      have hx7 := HX9.out.set (.slice (some ⟨g2, 0, none⟩) (L.length - 1) c2)
      have ne2 : g2 ≠ w.heap.size + 1 + 1 := by have := HG2.out; omega
      have hr7 := (rt_of_row HO2.out HDN.out).of_block (Below.heap_setCell w8 ⟨w.heap.size + 1 + 1, 0, none⟩ (.slice (some ⟨g2, 0, none⟩) (L.length - 1) c2) g2 ne2)
      have HX7 := Lib.hid hx7
      have HR7 := Lib.hid hr7
      clear hx7 hr7
      go_wp2_with fail
      generalize (w8.setCell ⟨w.heap.size + 1 + 1, 0, none⟩ (.slice (some ⟨g2, 0, none⟩) (L.length - 1) c2)) = V at *
      have c0 := HX7.out.b2.c
      exact bodyPost_ret (v := .tuple #[.agg #[.slice (some ⟨g2, 0, none⟩) (L.length - 1) c2], .int .i64 x.2, .bool true, .int .i64 0]) (by simp [results, Tryd.results51, go_sem, c0]) rfl ⟨⟨_, rfl, g2, HR7.out, by have := HG2.out; omega⟩, HX7.out.bl⟩
end Go.Proofs.YtbacahoihkpkpaaDoor
