/- The reference: Put of a new prefix. (Printed by gen_u5.py.) -/
import Derived.Test.YtbacahoihkpkpaaDoorU4
namespace Go.Proofs.YtbacahoihkpkpaaDoor
open Go.RowKit Go.Shelf Go.Maps
open Go.Sort (grow)
set_option maxRecDepth 100000 in
set_option maxHeartbeats 8000000 in
theorem rPut_new (v : Value) (g : Nat) (L : List (Key × Int)) (p : Key) (x : Int) (w : World) (hS : RT w g v L) (hp : p.length ≤ 32) (h512 : L.length < 512) (hi : atI (ka p) p.length L = none) :
    Calls Tryd.prog 50 #[v, .agg #[.int .u32 (ka p), .int .i64 p.length], .int .i64 x] w fun e w' => (∃ v' g', e = .returned (.tuple #[v', .int .i64 0, .bool false, .int .i64 0]) ∧ RT w' g' v' (insR L p x) ∧ w.heap.size ≤ g') ∧ Below w.heap.size w w' := by
  have HS0 := Lib.hid hS
  have HA := Lib.hid (fun W (h : RT W g v L) => rAt_any v g L (ka p) p.length W h (by omega))
  rw [hi] at HA
  obtain ⟨base, cap, rfl, hrl, hcap⟩ := hS.ex
  have HT0 := Lib.hid (TB.start w (.slice base L.length cap) (ka p) p.length (.slice none 0 0))
  have HK := Lib.hid (fun W => rRight_any (ka p) p.length W (ka_0 p) (ka_1 p))
  rw [ka_right hp] at HK
  dsimp only [atV] at HA
  have HRl := Lib.hid hrl
  have t1 : decide ((512 : Int) ≤ (L.length : Int)) = false := by (simp; omega)
  clear hS hi hrl
  go_enter Tryd.func50, Tryd.ntmps50
  go_upto_block 0 with (first
    | (go_at_call 40; with_reducible refine (HK.out _).mono ?_; rintro e w1 ⟨rfl, hb⟩; have HT := Lib.hid (HT0.out.below hb); have d0 := HT.out.b0.c; have d1 := HT.out.b1.c0; have d2 := HT.out.b1.c1; clear hb)
    | (go_at_call 29; with_reducible refine (HA.out _ (HS0.out.below HT.out.bl)).mono ?_; rintro e w1 ⟨rfl, hb⟩; have HT := Lib.hid (HT.out.below hb); clear d0 d1 d2; have d0 := HT.out.b0.c; clear hb)
    | fail)
  clear t1
  obtain ⟨k, hk⟩ : ∃ k, k = ahd (ka p) p.length L := ⟨_, rfl⟩
  have hkl : k ≤ L.length := by rw [hk]; exact ahd_le _ _ _
  have hki : insR L p x = L.take k ++ (p, x) :: L.drop k := by rw [hk, ahd_key]; rfl
  have HKi := Lib.hid hki
  have HKk := Lib.hid hk
  clear d0 hki hk
  go_cut [13] (fun s wx => s = .int .i64 k ∧ Below w1.heap.size w1 wx)
  case first => as_aux_lemma =>
    go_wp2_with fail
    go_loopg [13] L.length (frRel w1 (ka p) p.length L)
    case atStart => exact ⟨0, rfl, by omega, rfl, fun j hj => by omega, Below.refl _ _⟩
    case round =>
      obtain ⟨i, hn, hil, rfl, hall, hbl⟩ := hrel
      have Hn := Lib.hid hn
      have HAll := Lib.hid hall
      have HBl := Lib.hid hbl
      have HTr := Lib.hid (HT.out.below hbl)
      have c0 := cell_regrown HTr.out.b1.c0
      have c1 := cell_regrown HTr.out.b1.c1
      have c2 := cell_regrown HTr.out.b0.c
      clear hn hall
      by_cases hlt : i < L.length
      · obtain ⟨y, hy⟩ : ∃ y, L[i]? = some y := ⟨_, List.getElem?_eq_getElem hlt⟩
        obtain ⟨rfl, z0, z1', z2⟩ := (HRl.out.below HTr.out.bl).row i _ hy
        simp only [Nat.zero_add] at z0 z1' z2
        have HY := Lib.hid hy
        have y0 := cell_regrown z0
        have y1 := cell_regrown z1'
        clear hy hbl z0 z1' z2
        have i1 : (0 : Int) ≤ (i : Int) := by omega
        have i2 : (i : Int) < (L.length : Int) := by omega
        cases hf : ahB (ka p) p.length y with
        | true =>
          have t1 : decide (ordI (ka y.1) y.1.length (ka p) p.length < 0) = true := hf
          have HF := Lib.hid hf
          clear hf
          go_upto_region 12 with fail
          refine wp_region_quiet_below (by kernel_rfl) (by kernel_rfl) ?_
          repeat (first | go_big_quiet_step (exact orderR_g _ _ _ _ _ _ _) | quiet_step (exact orderR_g _ _ _ _ _ _ _))
          refine wpQuiet_nil ?_
          intro _ hw'
          obtain ⟨⟨dq, osq⟩, hw''⟩ := hw'
          subst hw''
          go_wp2_with fail
          go_roundg (L.length - (i + 1))
          case measure => have := Hn.out; omega
          case rel => exact ⟨i + 1, rfl, by omega, by go_num, fun j hj z hz => (by
            by_cases e : j = i
            · subst e; rw [HY.out] at hz; cases hz; exact HF.out
            · exact HAll.out j (by omega) z hz), bthen HBl.out (below_regrown _ _ _)⟩
        | false =>
          have t1 : decide (ordI (ka y.1) y.1.length (ka p) p.length < 0) = false := hf
          have HE := Lib.hid (show ahd (ka p) p.length L = i from tw_of hil HAll.out (fun z hz => by rw [HY.out] at hz; cases hz; exact hf))
          clear hf
          go_upto_region 12 with fail
          refine wp_region_quiet_below (by kernel_rfl) (by kernel_rfl) ?_
          repeat (first | go_big_quiet_step (exact orderR_g _ _ _ _ _ _ _) | quiet_step (exact orderR_g _ _ _ _ _ _ _))
          refine wpQuiet_nil ?_
          intro _ hw'
          obtain ⟨⟨dq, osq⟩, hw''⟩ := hw'
          subst hw''
          go_wp2_with fail
          go_meet
          exact ⟨by rw [HKk.out, HE.out], bthen HBl.out (below_regrown _ _ _)⟩
      · obtain rfl : i = L.length := by omega
        have HE := Lib.hid (show ahd (ka p) p.length L = L.length from tw_of hil HAll.out (fun z hz => by simp at hz))
        go_upto_region 12 with fail
        refine wp_region_quiet_below (by kernel_rfl) (by kernel_rfl) ?_
        repeat (first | go_big_quiet_step (exact orderR_g _ _ _ _ _ _ _) | quiet_step (exact orderR_g _ _ _ _ _ _ _))
        refine wpQuiet_nil ?_
        intro _ hw'
        obtain ⟨⟨dq, osq⟩, hw''⟩ := hw'
        subst hw''
        go_wp2_with fail
        go_meet
        exact ⟨by rw [HKk.out, HE.out], bthen HBl.out (below_regrown _ _ _)⟩
  case rest =>
    obtain ⟨rfl, hbc⟩ := hcut
    have HTc := Lib.hid (HT.out.below hbc)
    have d0 := HTc.out.b0.c
    have d1 := HTc.out.b1.c0
    have d2 := HTc.out.b1.c1
    have hrc := HRl.out.below HTc.out.bl
    have hsz := HTc.out.sz
    clear hbc HKk HA HK
    go_upto_region 14 with fail
    obtain ⟨i0, hii, hz0, hz1, hz2⟩ := info_parts info37
    have k1 : (0 : Int) ≤ (k : Int) := by omega
    have k2 : (k : Int) ≤ (L.length : Int) := by omega
    have k3 : (k : Int) ≤ (cap : Int) := by omega
    have One1 := Lib.hid (rCs_one (L.take k))
    have One2 := Lib.hid (rC_one (p, x))
    have One3 := Lib.hid (rCs_one (L.drop k))
    have S1 := Lib.hid (show ∀ W', Below wc.heap.size wc W' → Src W' base k 3 (rCs (L.take k)) from fun W' h => by
      have := ((hrc.below h).take k).src
      rwa [List.length_take, Nat.min_eq_left hkl] at this)
    have HX3 := Lib.hid (show (rCs (L.take k) ++ rC (p, x)) ++ rCs (L.drop k) = rCs (insR L p x) by
      rw [HKi.out, rCs_app]
      simp [rCs, rC])
    have HLn := Lib.hid (insR_len L p x)
    have x0 : w.heap.size < wc.heap.size := by omega
    have x1 : w.heap.size + 1 < wc.heap.size := by omega
    have S3 := Lib.hid (fun W' (h : Below wc.heap.size wc W') => (hrc.below h).cut (k := k) (cap := cap) hkl hcap)
    clear hrc
    by_cases hc : cap = k
    · subst hc
      have hLk : L.length - cap = 0 := by omega
      have S3 := Lib.hid (show ∀ W', Below wc.heap.size wc W' → Src W' base 0 3 (rCs (L.drop cap)) from fun W' h => by
        have := S3.out W' h
        rwa [if_pos rfl, hLk] at this)
      clear hLk
      have BA : Below wc.heap.size wc (wc.alloc (.cells #[] 37)).drew := ((Below.refl _ wc).alloc (Nat.le_refl _) _).drew
      have BB : Below wc.heap.size wc ((wc.alloc (.cells #[] 37)).alloc (.cells #[.int .u32 (ka p), .int .i64 p.length, .int .i64 x] 37)).drew := (((Below.refl _ wc).alloc (Nat.le_refl _) _).alloc (by simp) _).drew
      have BC : Below wc.heap.size wc ((wc.alloc (.cells #[.int .u32 (ka p), .int .i64 p.length, .int .i64 x] 37)).alloc (.cells #[] 37)).drew := (((Below.refl _ wc).alloc (Nat.le_refl _) _).alloc (by simp) _).drew
      have RA0 : (wc.alloc (.cells #[] 37)).ownsRow wc.heap.size 37 3 (.slice (some ⟨wc.heap.size, 0, none⟩) 0 0) 0 [] := World.ownsRow_made wc #[] 0 (Nat.le_refl _) (by unfold maxLen; omega) rfl
      have RA : (wc.alloc (.cells #[] 37)).drew.ownsRow wc.heap.size 37 3 (.slice (some ⟨wc.heap.size, 0, none⟩) 0 0) 0 [] := RA0
      have RB : ((wc.alloc (.cells #[] 37)).alloc (.cells #[.int .u32 (ka p), .int .i64 p.length, .int .i64 x] 37)).drew.ownsRow wc.heap.size 37 3 (.slice (some ⟨wc.heap.size, 0, none⟩) 0 0) 0 [] := RA0.alloc _
      have RC : ((wc.alloc (.cells #[.int .u32 (ka p), .int .i64 p.length, .int .i64 x] 37)).alloc (.cells #[] 37)).drew.ownsRow wc.heap.size 37 3 (.slice (some ⟨wc.heap.size + 1, 0, none⟩) 0 0) 0 [] := by
        have := World.ownsRow_made (base := wc.heap.size) (e := 37) (size := 3) (wc.alloc (.cells #[.int .u32 (ka p), .int .i64 p.length, .int .i64 x] 37)) #[] 0 (by simp) (by unfold maxLen; omega) rfl
        rw [World.size_alloc] at this
        exact this
      clear RA0
      have HA3 := Lib.hid BA; have HB3 := Lib.hid BB; have HC3 := Lib.hid BC; have GA3 := Lib.hid RA; have GB3 := Lib.hid RB; have GC3 := Lib.hid RC
      clear BA BB BC RA RB RC
      have CB := Lib.hid (show Src ((wc.alloc (.cells #[] 37)).alloc (.cells #[.int .u32 (ka p), .int .i64 p.length, .int .i64 x] 37)).drew (some ⟨wc.heap.size + 1, 0, none⟩) 1 3 (rC (p, x)) by
        have := src_new (wc.alloc (.cells #[] 37)) #[.int .u32 (ka p), .int .i64 p.length, .int .i64 x] 37 3 rfl
        rw [World.size_alloc] at this
        exact this)
      have CC := Lib.hid (show Src ((wc.alloc (.cells #[.int .u32 (ka p), .int .i64 p.length, .int .i64 x] 37)).alloc (.cells #[] 37)).drew (some ⟨wc.heap.size, 0, none⟩) 1 3 (rC (p, x)) from (src_new wc #[.int .u32 (ka p), .int .i64 p.length, .int .i64 x] 37 3 rfl).below (((Below.refl _ _).alloc (Nat.le_refl _) _).drew))
      go_region_held3 (fun w' => w'.cell? ⟨w.heap.size, 0, none⟩ = some (.slice base L.length cap) ∧ w'.cell? ⟨w.heap.size + 1, 0, none⟩ = some (.int .u32 (ka p)) ∧ w'.cell? ⟨w.heap.size + 1, 1, none⟩ = some (.int .i64 p.length))
        (first | exact ⟨(set_far (by omega)).trans d0, (set_far (by omega)).trans d1, (set_far (by omega)).trans d2⟩ | exact ⟨cellL hB d0, cellL hB d1, cellL hB d2⟩ | go_keep)
        (first
          | (refine step_append_src _ (by rfl) _ _ _ (by rfl) wc.heap.size 37 i0 _ 3 24 Tryd.underlying29 hii hz0 hz1 hz2 rfl (by omega) (.slice (some ⟨wc.heap.size, 0, none⟩) 0 0) 0 [] (by rfl) GA3.out (by simp) base cap cap (rCs (L.take cap)) (by rfl) (S1.out _ HA3.out) One1.out cap (by omega) (rCs (L.take cap)) (by rfl) (by unfold maxLen; omega) (by omega) HA3.out.size ?_; intro g1 c1 w7 hown1 hgrow1 hg1 hat1; have hB := HA3.out.grown hgrow1 HA3.out.size (fun cap e => by simp [Value.ownBlock] at e; omega); have HO1 := Lib.hid hown1; have HG1 := Lib.hid hg1; clear hown1 hgrow1 hat1 hg1)
          | (refine step_append_src _ (by rfl) _ _ _ (by rfl) wc.heap.size 37 i0 _ 3 24 Tryd.underlying29 hii hz0 hz1 hz2 rfl (by omega) (.slice (some ⟨wc.heap.size, 0, none⟩) 0 0) 0 [] (by rfl) GB3.out (by simp) base cap cap (rCs (L.take cap)) (by rfl) (S1.out _ HB3.out) One1.out cap (by omega) (rCs (L.take cap)) (by rfl) (by unfold maxLen; omega) (by omega) HB3.out.size ?_; intro g1 c1 w7 hown1 hgrow1 hg1 hat1; have hB := HB3.out.grown hgrow1 HB3.out.size (fun cap e => by simp [Value.ownBlock] at e; omega); have HO1 := Lib.hid hown1; have HG1 := Lib.hid hg1; have HXC := Lib.hid (CB.out.grown hgrow1 (fun e => by simp [Value.ownBlock] at e)); clear hown1 hgrow1 hat1 hg1)
          | (refine step_append_src _ (by rfl) _ _ _ (by rfl) wc.heap.size 37 i0 _ 3 24 Tryd.underlying29 hii hz0 hz1 hz2 rfl (by omega) (.slice (some ⟨wc.heap.size + 1, 0, none⟩) 0 0) 0 [] (by rfl) GC3.out (by simp) base cap cap (rCs (L.take cap)) (by rfl) (S1.out _ HC3.out) One1.out cap (by omega) (rCs (L.take cap)) (by rfl) (by unfold maxLen; omega) (by omega) HC3.out.size ?_; intro g1 c1 w7 hown1 hgrow1 hg1 hat1; have hB := HC3.out.grown hgrow1 HC3.out.size (fun cap e => by simp [Value.ownBlock] at e; omega); have HO1 := Lib.hid hown1; have HG1 := Lib.hid hg1; have HXC := Lib.hid (CC.out.grown hgrow1 (fun e => by simp [Value.ownBlock] at e)); clear hown1 hgrow1 hat1 hg1)
          | (refine step_append_src (w7.alloc (.cells #[.int .u32 (ka p), .int .i64 p.length, .int .i64 x] 37)) (by rfl) _ _ _ (by rfl) wc.heap.size 37 i0 _ 3 24 Tryd.underlying29 hii hz0 hz1 hz2 rfl (by omega) (.slice (some ⟨g1, 0, none⟩) cap c1) cap (rCs (L.take cap)) (by rfl) (HO1.out.alloc _) (by simp) (some ⟨w7.heap.size, 0, none⟩) 1 1 (rC (p, x)) (by rfl) (src_new w7 #[.int .u32 (ka p), .int .i64 p.length, .int .i64 x] 37 3 rfl) One2.out (cap + 1) (by omega) (rCs (L.take cap) ++ rC (p, x)) (by rfl) (by unfold maxLen; omega) (by omega) (bthen hB ((Below.refl _ w7).alloc (Nat.le_refl _) (.cells #[.int .u32 (ka p), .int .i64 p.length, .int .i64 x] 37))).size ?_; intro g2 c2 w8 hown2 hgrow2 hg2 hat2; have hB2 := (bthen hB ((Below.refl _ w7).alloc (Nat.le_refl _) (.cells #[.int .u32 (ka p), .int .i64 p.length, .int .i64 x] 37))).grown hgrow2 (bthen hB ((Below.refl _ w7).alloc (Nat.le_refl _) (.cells #[.int .u32 (ka p), .int .i64 p.length, .int .i64 x] 37))).size (fun cap e => by simp [Value.ownBlock] at e; have := HG1.out; omega); have hB := hB2; have HO2 := Lib.hid hown2; have HG2 := Lib.hid hg2; clear hown2 hgrow2 hat2 hg2 hB2)
          | (refine step_append_src w7 (by rfl) _ _ _ (by rfl) wc.heap.size 37 i0 _ 3 24 Tryd.underlying29 hii hz0 hz1 hz2 rfl (by omega) (.slice (some ⟨g1, 0, none⟩) cap c1) cap (rCs (L.take cap)) (by rfl) HO1.out (by simp) (some ⟨wc.heap.size + 1, 0, none⟩) 1 1 (rC (p, x)) (by rfl) HXC.out One2.out (cap + 1) (by omega) (rCs (L.take cap) ++ rC (p, x)) (by rfl) (by unfold maxLen; omega) (by omega) hB.size ?_; intro g2 c2 w8 hown2 hgrow2 hg2 hat2; have hB2 := hB.grown hgrow2 hB.size (fun cap e => by simp [Value.ownBlock] at e; have := HG1.out; omega); have hB := hB2; have HO2 := Lib.hid hown2; have HG2 := Lib.hid hg2; clear hown2 hgrow2 hat2 hg2 hB2)
          | (refine step_append_src w7 (by rfl) _ _ _ (by rfl) wc.heap.size 37 i0 _ 3 24 Tryd.underlying29 hii hz0 hz1 hz2 rfl (by omega) (.slice (some ⟨g1, 0, none⟩) cap c1) cap (rCs (L.take cap)) (by rfl) HO1.out (by simp) (some ⟨wc.heap.size, 0, none⟩) 1 1 (rC (p, x)) (by rfl) HXC.out One2.out (cap + 1) (by omega) (rCs (L.take cap) ++ rC (p, x)) (by rfl) (by unfold maxLen; omega) (by omega) hB.size ?_; intro g2 c2 w8 hown2 hgrow2 hg2 hat2; have hB2 := hB.grown hgrow2 hB.size (fun cap e => by simp [Value.ownBlock] at e; have := HG1.out; omega); have hB := hB2; have HO2 := Lib.hid hown2; have HG2 := Lib.hid hg2; clear hown2 hgrow2 hat2 hg2 hB2)
          | (refine step_append_src w8 (by rfl) _ _ _ (by rfl) wc.heap.size 37 i0 _ 3 24 Tryd.underlying29 hii hz0 hz1 hz2 rfl (by omega) (.slice (some ⟨g2, 0, none⟩) (cap + 1) c2) (cap + 1) (rCs (L.take cap) ++ rC (p, x)) (by rfl) HO2.out (by simp) base 0 0 (rCs (L.drop cap)) (by rfl) (S3.out _ hB) One3.out (L.length + 1) (by omega) (rCs (insR L p x)) HX3.out (by unfold maxLen; omega) (by omega) hB.size ?_; intro g3 c3 w9 hown3 hgrow3 hg3 hat3; have hB3 := hB.grown hgrow3 hB.size (fun cap e => by simp [Value.ownBlock] at e; have := HG2.out; omega); have hB := hB3; have HO3 := Lib.hid hown3; have HG3 := Lib.hid hg3; have hx9 := HTc.out.below hB; have d0 := hx9.b0.c; have d1 := hx9.b1.c0; have d2 := hx9.b1.c1; have e0 := hx9.b2.c; have e1 := hx9.b2.f; have HX9 := Lib.hid hx9; clear hx9; clear hown3 hgrow3 hat3 hg3 hB3))
      all_goals
        clear e0 e1 d0 d1 d2
        have hx7 := HX9.out.set (.slice (some ⟨g3, 0, none⟩) (L.length + 1) c3)
        have ne2 : g3 ≠ w.heap.size + 1 + 1 := by have := HG3.out; omega
        have hr7 := (rt_of_row HO3.out HLn.out).of_block (Below.heap_setCell w9 ⟨w.heap.size + 1 + 1, 0, none⟩ (.slice (some ⟨g3, 0, none⟩) (L.length + 1) c3) g3 ne2)
        have HX7 := Lib.hid hx7
        have HR7 := Lib.hid hr7
        clear hx7 hr7
        go_wp2_with fail
        generalize (w9.setCell ⟨w.heap.size + 1 + 1, 0, none⟩ (.slice (some ⟨g3, 0, none⟩) (L.length + 1) c3)) = V at *
        have c0 := HX7.out.b2.c
        refine bodyPost_ret (v := .tuple #[.agg #[.slice (some ⟨g3, 0, none⟩) (L.length + 1) c3], .int .i64 0, .bool false, .int .i64 0]) (by simp [results, Tryd.results50, go_sem, c0]) rfl ⟨?_, HX7.out.bl⟩
        have hg3 : w.heap.size ≤ g3 := by have := HG3.out; omega
        first
          | exact ⟨_, rfl, g3, HR7.out, hg3⟩
          | exact ⟨_, g3, rfl, HR7.out, hg3⟩

    · have S3 := Lib.hid (show ∀ W', Below wc.heap.size wc W' → Src W' (base.map (·.add (k * 3))) (L.length - k) 3 (rCs (L.drop k)) from fun W' h => by
        have := S3.out W' h
        rwa [if_neg hc] at this)
      have BA : Below wc.heap.size wc (wc.alloc (.cells #[] 37)).drew := ((Below.refl _ wc).alloc (Nat.le_refl _) _).drew
      have BB : Below wc.heap.size wc ((wc.alloc (.cells #[] 37)).alloc (.cells #[.int .u32 (ka p), .int .i64 p.length, .int .i64 x] 37)).drew := (((Below.refl _ wc).alloc (Nat.le_refl _) _).alloc (by simp) _).drew
      have BC : Below wc.heap.size wc ((wc.alloc (.cells #[.int .u32 (ka p), .int .i64 p.length, .int .i64 x] 37)).alloc (.cells #[] 37)).drew := (((Below.refl _ wc).alloc (Nat.le_refl _) _).alloc (by simp) _).drew
      have RA0 : (wc.alloc (.cells #[] 37)).ownsRow wc.heap.size 37 3 (.slice (some ⟨wc.heap.size, 0, none⟩) 0 0) 0 [] := World.ownsRow_made wc #[] 0 (Nat.le_refl _) (by unfold maxLen; omega) rfl
      have RA : (wc.alloc (.cells #[] 37)).drew.ownsRow wc.heap.size 37 3 (.slice (some ⟨wc.heap.size, 0, none⟩) 0 0) 0 [] := RA0
      have RB : ((wc.alloc (.cells #[] 37)).alloc (.cells #[.int .u32 (ka p), .int .i64 p.length, .int .i64 x] 37)).drew.ownsRow wc.heap.size 37 3 (.slice (some ⟨wc.heap.size, 0, none⟩) 0 0) 0 [] := RA0.alloc _
      have RC : ((wc.alloc (.cells #[.int .u32 (ka p), .int .i64 p.length, .int .i64 x] 37)).alloc (.cells #[] 37)).drew.ownsRow wc.heap.size 37 3 (.slice (some ⟨wc.heap.size + 1, 0, none⟩) 0 0) 0 [] := by
        have := World.ownsRow_made (base := wc.heap.size) (e := 37) (size := 3) (wc.alloc (.cells #[.int .u32 (ka p), .int .i64 p.length, .int .i64 x] 37)) #[] 0 (by simp) (by unfold maxLen; omega) rfl
        rw [World.size_alloc] at this
        exact this
      clear RA0
      have HA3 := Lib.hid BA; have HB3 := Lib.hid BB; have HC3 := Lib.hid BC; have GA3 := Lib.hid RA; have GB3 := Lib.hid RB; have GC3 := Lib.hid RC
      clear BA BB BC RA RB RC
      have CB := Lib.hid (show Src ((wc.alloc (.cells #[] 37)).alloc (.cells #[.int .u32 (ka p), .int .i64 p.length, .int .i64 x] 37)).drew (some ⟨wc.heap.size + 1, 0, none⟩) 1 3 (rC (p, x)) by
        have := src_new (wc.alloc (.cells #[] 37)) #[.int .u32 (ka p), .int .i64 p.length, .int .i64 x] 37 3 rfl
        rw [World.size_alloc] at this
        exact this)
      have CC := Lib.hid (show Src ((wc.alloc (.cells #[.int .u32 (ka p), .int .i64 p.length, .int .i64 x] 37)).alloc (.cells #[] 37)).drew (some ⟨wc.heap.size, 0, none⟩) 1 3 (rC (p, x)) from (src_new wc #[.int .u32 (ka p), .int .i64 p.length, .int .i64 x] 37 3 rfl).below (((Below.refl _ _).alloc (Nat.le_refl _) _).drew))
      go_region_held3 (fun w' => w'.cell? ⟨w.heap.size, 0, none⟩ = some (.slice base L.length cap) ∧ w'.cell? ⟨w.heap.size + 1, 0, none⟩ = some (.int .u32 (ka p)) ∧ w'.cell? ⟨w.heap.size + 1, 1, none⟩ = some (.int .i64 p.length))
        (first | exact ⟨(set_far (by omega)).trans d0, (set_far (by omega)).trans d1, (set_far (by omega)).trans d2⟩ | exact ⟨cellL hB d0, cellL hB d1, cellL hB d2⟩ | go_keep)
        (first
          | (refine step_append_src _ (by rfl) _ _ _ (by rfl) wc.heap.size 37 i0 _ 3 24 Tryd.underlying29 hii hz0 hz1 hz2 rfl (by omega) (.slice (some ⟨wc.heap.size, 0, none⟩) 0 0) 0 [] (by rfl) GA3.out (by simp) base k cap (rCs (L.take k)) (by rfl) (S1.out _ HA3.out) One1.out k (by omega) (rCs (L.take k)) (by rfl) (by unfold maxLen; omega) (by omega) HA3.out.size ?_; intro g1 c1 w7 hown1 hgrow1 hg1 hat1; have hB := HA3.out.grown hgrow1 HA3.out.size (fun k e => by simp [Value.ownBlock] at e; omega); have HO1 := Lib.hid hown1; have HG1 := Lib.hid hg1; clear hown1 hgrow1 hat1 hg1)
          | (refine step_append_src _ (by rfl) _ _ _ (by rfl) wc.heap.size 37 i0 _ 3 24 Tryd.underlying29 hii hz0 hz1 hz2 rfl (by omega) (.slice (some ⟨wc.heap.size, 0, none⟩) 0 0) 0 [] (by rfl) GB3.out (by simp) base k cap (rCs (L.take k)) (by rfl) (S1.out _ HB3.out) One1.out k (by omega) (rCs (L.take k)) (by rfl) (by unfold maxLen; omega) (by omega) HB3.out.size ?_; intro g1 c1 w7 hown1 hgrow1 hg1 hat1; have hB := HB3.out.grown hgrow1 HB3.out.size (fun k e => by simp [Value.ownBlock] at e; omega); have HO1 := Lib.hid hown1; have HG1 := Lib.hid hg1; have HXC := Lib.hid (CB.out.grown hgrow1 (fun e => by simp [Value.ownBlock] at e)); clear hown1 hgrow1 hat1 hg1)
          | (refine step_append_src _ (by rfl) _ _ _ (by rfl) wc.heap.size 37 i0 _ 3 24 Tryd.underlying29 hii hz0 hz1 hz2 rfl (by omega) (.slice (some ⟨wc.heap.size + 1, 0, none⟩) 0 0) 0 [] (by rfl) GC3.out (by simp) base k cap (rCs (L.take k)) (by rfl) (S1.out _ HC3.out) One1.out k (by omega) (rCs (L.take k)) (by rfl) (by unfold maxLen; omega) (by omega) HC3.out.size ?_; intro g1 c1 w7 hown1 hgrow1 hg1 hat1; have hB := HC3.out.grown hgrow1 HC3.out.size (fun k e => by simp [Value.ownBlock] at e; omega); have HO1 := Lib.hid hown1; have HG1 := Lib.hid hg1; have HXC := Lib.hid (CC.out.grown hgrow1 (fun e => by simp [Value.ownBlock] at e)); clear hown1 hgrow1 hat1 hg1)
          | (refine step_append_src (w7.alloc (.cells #[.int .u32 (ka p), .int .i64 p.length, .int .i64 x] 37)) (by rfl) _ _ _ (by rfl) wc.heap.size 37 i0 _ 3 24 Tryd.underlying29 hii hz0 hz1 hz2 rfl (by omega) (.slice (some ⟨g1, 0, none⟩) k c1) k (rCs (L.take k)) (by rfl) (HO1.out.alloc _) (by simp) (some ⟨w7.heap.size, 0, none⟩) 1 1 (rC (p, x)) (by rfl) (src_new w7 #[.int .u32 (ka p), .int .i64 p.length, .int .i64 x] 37 3 rfl) One2.out (k + 1) (by omega) (rCs (L.take k) ++ rC (p, x)) (by rfl) (by unfold maxLen; omega) (by omega) (bthen hB ((Below.refl _ w7).alloc (Nat.le_refl _) (.cells #[.int .u32 (ka p), .int .i64 p.length, .int .i64 x] 37))).size ?_; intro g2 c2 w8 hown2 hgrow2 hg2 hat2; have hB2 := (bthen hB ((Below.refl _ w7).alloc (Nat.le_refl _) (.cells #[.int .u32 (ka p), .int .i64 p.length, .int .i64 x] 37))).grown hgrow2 (bthen hB ((Below.refl _ w7).alloc (Nat.le_refl _) (.cells #[.int .u32 (ka p), .int .i64 p.length, .int .i64 x] 37))).size (fun k e => by simp [Value.ownBlock] at e; have := HG1.out; omega); have hB := hB2; have HO2 := Lib.hid hown2; have HG2 := Lib.hid hg2; clear hown2 hgrow2 hat2 hg2 hB2)
          | (refine step_append_src w7 (by rfl) _ _ _ (by rfl) wc.heap.size 37 i0 _ 3 24 Tryd.underlying29 hii hz0 hz1 hz2 rfl (by omega) (.slice (some ⟨g1, 0, none⟩) k c1) k (rCs (L.take k)) (by rfl) HO1.out (by simp) (some ⟨wc.heap.size + 1, 0, none⟩) 1 1 (rC (p, x)) (by rfl) HXC.out One2.out (k + 1) (by omega) (rCs (L.take k) ++ rC (p, x)) (by rfl) (by unfold maxLen; omega) (by omega) hB.size ?_; intro g2 c2 w8 hown2 hgrow2 hg2 hat2; have hB2 := hB.grown hgrow2 hB.size (fun k e => by simp [Value.ownBlock] at e; have := HG1.out; omega); have hB := hB2; have HO2 := Lib.hid hown2; have HG2 := Lib.hid hg2; clear hown2 hgrow2 hat2 hg2 hB2)
          | (refine step_append_src w7 (by rfl) _ _ _ (by rfl) wc.heap.size 37 i0 _ 3 24 Tryd.underlying29 hii hz0 hz1 hz2 rfl (by omega) (.slice (some ⟨g1, 0, none⟩) k c1) k (rCs (L.take k)) (by rfl) HO1.out (by simp) (some ⟨wc.heap.size, 0, none⟩) 1 1 (rC (p, x)) (by rfl) HXC.out One2.out (k + 1) (by omega) (rCs (L.take k) ++ rC (p, x)) (by rfl) (by unfold maxLen; omega) (by omega) hB.size ?_; intro g2 c2 w8 hown2 hgrow2 hg2 hat2; have hB2 := hB.grown hgrow2 hB.size (fun k e => by simp [Value.ownBlock] at e; have := HG1.out; omega); have hB := hB2; have HO2 := Lib.hid hown2; have HG2 := Lib.hid hg2; clear hown2 hgrow2 hat2 hg2 hB2)
          | (refine step_append_src w8 (by rfl) _ _ _ (by rfl) wc.heap.size 37 i0 _ 3 24 Tryd.underlying29 hii hz0 hz1 hz2 rfl (by omega) (.slice (some ⟨g2, 0, none⟩) (k + 1) c2) (k + 1) (rCs (L.take k) ++ rC (p, x)) (by rfl) HO2.out (by simp) (base.map (·.add (k * 3))) (L.length - k) (cap - k) (rCs (L.drop k)) (by rfl) (S3.out _ hB) One3.out (L.length + 1) (by omega) (rCs (insR L p x)) HX3.out (by unfold maxLen; omega) (by omega) hB.size ?_; intro g3 c3 w9 hown3 hgrow3 hg3 hat3; have hB3 := hB.grown hgrow3 hB.size (fun k e => by simp [Value.ownBlock] at e; have := HG2.out; omega); have hB := hB3; have HO3 := Lib.hid hown3; have HG3 := Lib.hid hg3; have hx9 := HTc.out.below hB; have d0 := hx9.b0.c; have d1 := hx9.b1.c0; have d2 := hx9.b1.c1; have e0 := hx9.b2.c; have e1 := hx9.b2.f; have HX9 := Lib.hid hx9; clear hx9; clear hown3 hgrow3 hat3 hg3 hB3))
      all_goals
        clear e0 e1 d0 d1 d2
        have hx7 := HX9.out.set (.slice (some ⟨g3, 0, none⟩) (L.length + 1) c3)
        have ne2 : g3 ≠ w.heap.size + 1 + 1 := by have := HG3.out; omega
        have hr7 := (rt_of_row HO3.out HLn.out).of_block (Below.heap_setCell w9 ⟨w.heap.size + 1 + 1, 0, none⟩ (.slice (some ⟨g3, 0, none⟩) (L.length + 1) c3) g3 ne2)
        have HX7 := Lib.hid hx7
        have HR7 := Lib.hid hr7
        clear hx7 hr7
        go_wp2_with fail
        generalize (w9.setCell ⟨w.heap.size + 1 + 1, 0, none⟩ (.slice (some ⟨g3, 0, none⟩) (L.length + 1) c3)) = V at *
        have c0 := HX7.out.b2.c
        refine bodyPost_ret (v := .tuple #[.agg #[.slice (some ⟨g3, 0, none⟩) (L.length + 1) c3], .int .i64 0, .bool false, .int .i64 0]) (by simp [results, Tryd.results50, go_sem, c0]) rfl ⟨?_, HX7.out.bl⟩
        have hg3 : w.heap.size ≤ g3 := by have := HG3.out; omega
        first
          | exact ⟨_, rfl, g3, HR7.out, hg3⟩
          | exact ⟨_, g3, rfl, HR7.out, hg3⟩
end Go.Proofs.YtbacahoihkpkpaaDoor
