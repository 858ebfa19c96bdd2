/- Contracts: trie.rows, its walk. -/
import Derived.Test.YtbacahoihkpkpaaDoorT21
namespace Go.Proofs.YtbacahoihkpkpaaDoor
open Go.RowKit Go.Shelf Go.Maps

attribute [local go_sem] Oper.semAt_some

def walkV (n : Nat) : Value := .func (.func 66) #[] #[.pointer (some ⟨n, 0, none⟩), .pointer (some ⟨n + 1, 0, none⟩)]
/-- the list being made, and the walk's own box -/
structure WS (w0 W : World) (L : List (Key × Int)) : Prop where
  below : Below w0.heap.size w0 W
  wk : W.heap[w0.heap.size + 1]? = some (.cells #[walkV w0.heap.size] 117)
  row : ∃ v, Boxed W w0.heap.size 71 v ∧ W.ownsRow w0.heap.size 74 3 v L.length (rCs L)
theorem WS.wc {w0 W : World} {L : List (Key × Int)} (h : WS w0 W L) : W.cell? ⟨w0.heap.size + 1, 0, none⟩ = some (.func (.func 66) #[] #[.pointer (some ⟨w0.heap.size, 0, none⟩), .pointer (some ⟨w0.heap.size + 1, 0, none⟩)]) := by simp [World.cell?, h.wk, walkV]
theorem WS.step {w0 W W' : World} {L : List (Key × Int)} (h : WS w0 W L) (hb : Below W.heap.size W W') : WS w0 W' L := by
  obtain ⟨v, h1, h2⟩ := h.row
  exact ⟨bthen h.below hb, (hb.block _ (Array.getElem?_eq_some_iff.1 h.wk).1).trans h.wk, v, (hb.block _ h1.lt).trans h1, row_below h2 hb⟩
theorem kept_app2 {N : Nat} {w2 w3 : World} {v v' : Value} {n : Nat} {xs : List Value} {o : Obj} {x : Value} (hw : w2.heap[N + 1]? = some (.cells #[x] 117)) (hr : w2.ownsRow N 74 3 v n xs)
    (hg : (w2.alloc o).grownBy w3 v.ownBlock) : (w3.setCell ⟨N, 0, none⟩ v').heap[N + 1]? = some (.cells #[x] 117) := by
  have hl : N + 1 < w2.heap.size := (Array.getElem?_eq_some_iff.1 hw).1
  have hrow : some (N + 1) ≠ v.ownBlock := by
    intro e
    obtain ⟨h1, cur, h2⟩ := own_ge hr e.symm
    rw [hw] at h2
    simp at h2
  exact (heapS _ _ _ _ (N + 1) (by omega)).trans ((hg.block (N + 1) (by simp; omega) hrow).trans ((Below.heap_alloc w2 o (N + 1) hl).trans hw))

set_option maxRecDepth 1000000 in
set_option maxHeartbeats 4000000 in
theorem rows1_any (w0 : World) (T : TT) : ∀ (W : World) (L : List (Key × Int)), T.In w0 → WS w0 W L → L.length + T.rows.length ≤ 1000000000 →
    Calls Tryd.prog 66 #[T.ptr, .pointer (some ⟨w0.heap.size, 0, none⟩), .pointer (some ⟨w0.heap.size + 1, 0, none⟩)] W fun e w' => (∃ v, e = .returned v) ∧ WS w0 w' (L ++ T.rows) := by
  induction T with
  | nil =>
    intro W L _ hS _
    simp only [TT.ptr, TT.rows, List.append_nil]
    go_enter Tryd.func66, Tryd.ntmps66
    go_wp2_with fail
    exact bodyPost_ret (results_none rfl _ _ _) rfl ⟨⟨_, rfl⟩, hS⟩
  | node b k o lc rc il ir =>
    intro W1 L hin hS hlen
    obtain ⟨i0, hi, hz0, hz1, hz2⟩ := info_parts info74
    have hin1 : (TT.node b k o lc rc).In W1 := hin.below hS.below
    have n3 := hin1.c3
    have n4 := hin1.c4
    have n5 := hin1.c5
    have x0 := hS.wc
    have HIn := Lib.hid hin
    have HS := Lib.hid hS
    have IL := Lib.hid il
    have IR := Lib.hid ir
    simp only [TT.rows, List.length_append] at hlen
    have hl2 : (TT.rowO k o).length + L.length + lc.rows.length + rc.rows.length ≤ 1000000000 := by omega
    clear hin hin1 hS il ir
    rw [show (TT.node b k o lc rc).ptr = .pointer (some ⟨b, 0, none⟩) from rfl]
    have hrest : ∀ (l : List (Key × Int)) (W : World), WS w0 W (L ++ l) → l = TT.rowO k o → True := fun _ _ _ _ => trivial
    clear hrest
    cases o with
    | none =>
      simp only [Option.isSome_none] at n3
      simp only [TT.rowO, List.length_nil] at hl2
      go_enter Tryd.func66, Tryd.ntmps66
      go_upto_region 4 with fail
      have HM := Lib.hid (show WS w0 W1 (L ++ TT.rowO k none) from by rw [TT.rowO, List.append_nil]; exact HS.out)
      clear x0 n3 n4 n5
      have x0 := HM.out.wc
      have n4 := (HIn.out.below HM.out.below).c4
      have n5 := (HIn.out.below HM.out.below).c5
      refine wp_region_tail 6 (by kernel_rfl) (by kernel_rfl) ?_
      simp only [List.take_succ_cons, List.take_zero, List.drop_succ_cons, List.drop_zero]
      repeat still_step
      refine wpStill_nil ?_
      have h1 := HM.out.step (Below.refl _ W1).drew
      have HL1 := Lib.hid (IL.out W1.drew _ HIn.out.2.1 h1 (by simp [TT.rowO]; omega))
      clear h1
      go_upto_region 5 with (go_at_call 66; with_reducible refine HL1.out.mono ?_; rintro e w2 ⟨⟨v2, rfl⟩, hS2⟩; have HS2 := Lib.hid hS2; clear hS2 x0 n4 n5; have x0 := HS2.out.wc; have n5 := (HIn.out.below HS2.out.below).c5)
      refine wp_region_tail 6 (by kernel_rfl) (by kernel_rfl) ?_
      simp only [List.take_succ_cons, List.take_zero, List.drop_succ_cons, List.drop_zero]
      repeat still_step
      refine wpStill_nil ?_
      have h2 := HS2.out.step (Below.refl _ w2).drew
      have HL2 := Lib.hid (IR.out w2.drew _ HIn.out.2.2 h2 (by simp [TT.rowO]; omega))
      clear h2
      go_wp2_with (go_at_call 66; with_reducible refine HL2.out.mono ?_; rintro e w3 ⟨⟨v3, rfl⟩, hS3⟩)
      refine bodyPost_end (results_none rfl _ _ _) rfl ⟨⟨_, rfl⟩, ?_⟩
      rw [show (TT.node b k none lc rc).rows = TT.rowO k none ++ (lc.rows ++ rc.rows) from rfl, ← List.append_assoc, ← List.append_assoc]
      exact hS3
    | some u =>
      simp only [Option.isSome_some] at n3
      simp only [TT.rowO, List.length_singleton] at hl2
      go_enter Tryd.func66, Tryd.ntmps66
      go_upto_region 3 with fail
      go_cut [] (fun wx => WS w0 wx (L ++ [(k, u)]))
      case first =>
        have hin1 := HIn.out.below HS.out.below
        have HRo := Lib.hid (row_any b k u lc rc)
        obtain ⟨v, hv, hrow⟩ := HS.out.row
        have c0 := hv.cell
        have f0 := hv.frozen
        have HV := Lib.hid hv
        have HRw := Lib.hid hrow
        have HIn1 := Lib.hid hin1
        have hbw : w0.heap.size < W1.heap.size := hv.lt
        clear hv hrow hin1
        have hInD : (TT.node b k (some u) lc rc).In W1.drew := HIn1.out.below (Below.refl _ _).drew
        refine wp_region_any (by kernel_rfl) ?_
        refine wpAny_ready (rs := [0, 1]) (by kernel_rfl) (by simp) (AllReady.cons rfl (fun K hK => ?_) (AllReady.cons rfl (fun K hK => ?_) AllReady.nil))
        · go_simp
          refine hK _ _ ?_
          clear hK K
          refine wpAny_ready (rs := [1]) (by kernel_rfl) (by simp) (AllReady.cons rfl (fun K hK => ?_) AllReady.nil)
          go_simp
          refine hK _ _ ?_
          clear hK K
          refine wpAny_ready (rs := [2]) (by kernel_rfl) (by simp) (AllReady.cons rfl (fun K hK => ?_) AllReady.nil)
          go_simp
          refine (HRo.out _ hInD).mono ?_
          rintro e w2 ⟨rfl, hb2⟩
          have hb2' : Below W1.heap.size W1 w2 := ⟨hb2.os, hb2.tape, hb2.output, hb2.size, hb2.block⟩
          have c2 : w2.cell? ⟨w0.heap.size, 0, none⟩ = some v := (hb2.cell (p := ⟨w0.heap.size, 0, none⟩) hbw).trans c0
          have hv2 : Boxed w2 w0.heap.size 71 v := (hb2.block _ hbw).trans HV.out
          have hS2 := HS.out.step hb2'
          have hrow2 : w2.ownsRow w0.heap.size 74 3 v L.length (rCs L) := row_below HRw.out hb2'
          refine hK _ _ ?_
          clear hK K
          refine wpAny_ready (rs := [3]) (by kernel_rfl) (by simp) (AllReady.cons rfl (fun K hK => ?_) AllReady.nil)
          go_simp
          have c3 := (((Below.refl _ w2).alloc (Nat.le_refl _) (.cells #[.int .u32 (ka k), .int .i64 k.length, .int .i64 u] 74)).cell (p := ⟨w0.heap.size, 0, none⟩) hv2.lt).trans c2
          refine hK _ _ ?_
          clear hK K
          refine wpAny_ready (rs := [4]) (by kernel_rfl) (by simp) (AllReady.cons rfl (fun K hK => ?_) AllReady.nil)
          refine step_append_lies _ (by rfl) _ _ _ (by rfl) w0.heap.size 74 i0 _ 3 24 Tryd.underlying71 hi hz0 hz1 hz2 rfl (by omega) v L.length (rCs L) (by rfl) (hrow2.alloc _) ⟨w2.heap.size, 0, none⟩ 1 1 (rC (k, u)) (by rfl) (by rfl) (cells_three_new _ _ _ _ _) (by simp [rC, Value.oneCell']) (by omega) (by unfold maxLen; omega) (by omega) (by have := hS2.below.size; simp; omega) (w2.heap.size + 1) (by simp) ?_
          intro g' cap1 w3 hown1 hgrow hat hlt3
          obtain ⟨hv1, hv3, hr3, hk3, hb3⟩ := hv2.appended (by decide) hrow2 hS2.below.size (by omega) hown1 hgrow
          have c4 := hv1.cell
          have f4 := hv1.frozen
          refine hK _ _ ?_
          clear hK K
          refine wpAny_ready (rs := [5]) (by kernel_rfl) (by simp) (AllReady.cons rfl (fun K hK => ?_) AllReady.nil)
          go_simp
          refine hK _ _ ?_
          clear hK K
          refine wpAny_done (by kernel_rfl) ?_ _
          go_wp2_with fail
          go_meet
          exact ⟨hS2.below.trans hb3, kept_app2 hS2.wk hrow2 hgrow, _, hv3, by simpa [rCs] using hr3⟩
        · go_simp
          refine hK _ _ ?_
          clear hK K
          refine wpAny_ready (rs := [0, 2]) (by kernel_rfl) (by simp) (AllReady.cons rfl (fun K hK => ?_) (AllReady.cons rfl (fun K hK => ?_) AllReady.nil))
          · go_simp
            refine hK _ _ ?_
            clear hK K
            refine wpAny_ready (rs := [2]) (by kernel_rfl) (by simp) (AllReady.cons rfl (fun K hK => ?_) AllReady.nil)
            go_simp
            refine (HRo.out _ hInD).mono ?_
            rintro e w2 ⟨rfl, hb2⟩
            have hb2' : Below W1.heap.size W1 w2 := ⟨hb2.os, hb2.tape, hb2.output, hb2.size, hb2.block⟩
            have c2 : w2.cell? ⟨w0.heap.size, 0, none⟩ = some v := (hb2.cell (p := ⟨w0.heap.size, 0, none⟩) hbw).trans c0
            have hv2 : Boxed w2 w0.heap.size 71 v := (hb2.block _ hbw).trans HV.out
            have hS2 := HS.out.step hb2'
            have hrow2 : w2.ownsRow w0.heap.size 74 3 v L.length (rCs L) := row_below HRw.out hb2'
            refine hK _ _ ?_
            clear hK K
            refine wpAny_ready (rs := [3]) (by kernel_rfl) (by simp) (AllReady.cons rfl (fun K hK => ?_) AllReady.nil)
            go_simp
            have c3 := (((Below.refl _ w2).alloc (Nat.le_refl _) (.cells #[.int .u32 (ka k), .int .i64 k.length, .int .i64 u] 74)).cell (p := ⟨w0.heap.size, 0, none⟩) hv2.lt).trans c2
            refine hK _ _ ?_
            clear hK K
            refine wpAny_ready (rs := [4]) (by kernel_rfl) (by simp) (AllReady.cons rfl (fun K hK => ?_) AllReady.nil)
            refine step_append_lies _ (by rfl) _ _ _ (by rfl) w0.heap.size 74 i0 _ 3 24 Tryd.underlying71 hi hz0 hz1 hz2 rfl (by omega) v L.length (rCs L) (by rfl) (hrow2.alloc _) ⟨w2.heap.size, 0, none⟩ 1 1 (rC (k, u)) (by rfl) (by rfl) (cells_three_new _ _ _ _ _) (by simp [rC, Value.oneCell']) (by omega) (by unfold maxLen; omega) (by omega) (by have := hS2.below.size; simp; omega) (w2.heap.size + 1) (by simp) ?_
            intro g' cap1 w3 hown1 hgrow hat hlt3
            obtain ⟨hv1, hv3, hr3, hk3, hb3⟩ := hv2.appended (by decide) hrow2 hS2.below.size (by omega) hown1 hgrow
            have c4 := hv1.cell
            have f4 := hv1.frozen
            refine hK _ _ ?_
            clear hK K
            refine wpAny_ready (rs := [5]) (by kernel_rfl) (by simp) (AllReady.cons rfl (fun K hK => ?_) AllReady.nil)
            go_simp
            refine hK _ _ ?_
            clear hK K
            refine wpAny_done (by kernel_rfl) ?_ _
            go_wp2_with fail
            go_meet
            exact ⟨hS2.below.trans hb3, kept_app2 hS2.wk hrow2 hgrow, _, hv3, by simpa [rCs] using hr3⟩
          · go_simp
            refine (HRo.out _ hInD).mono ?_
            rintro e w2 ⟨rfl, hb2⟩
            have hb2' : Below W1.heap.size W1 w2 := ⟨hb2.os, hb2.tape, hb2.output, hb2.size, hb2.block⟩
            have c2 : w2.cell? ⟨w0.heap.size, 0, none⟩ = some v := (hb2.cell (p := ⟨w0.heap.size, 0, none⟩) hbw).trans c0
            have hv2 : Boxed w2 w0.heap.size 71 v := (hb2.block _ hbw).trans HV.out
            have hS2 := HS.out.step hb2'
            have hrow2 : w2.ownsRow w0.heap.size 74 3 v L.length (rCs L) := row_below HRw.out hb2'
            refine hK _ _ ?_
            clear hK K
            refine wpAny_ready (rs := [0, 3]) (by kernel_rfl) (by simp) (AllReady.cons rfl (fun K hK => ?_) (AllReady.cons rfl (fun K hK => ?_) AllReady.nil))
            · go_simp
              refine hK _ _ ?_
              clear hK K
              refine wpAny_ready (rs := [3]) (by kernel_rfl) (by simp) (AllReady.cons rfl (fun K hK => ?_) AllReady.nil)
              go_simp
              have c3 := (((Below.refl _ w2).alloc (Nat.le_refl _) (.cells #[.int .u32 (ka k), .int .i64 k.length, .int .i64 u] 74)).cell (p := ⟨w0.heap.size, 0, none⟩) hv2.lt).trans c2
              refine hK _ _ ?_
              clear hK K
              refine wpAny_ready (rs := [4]) (by kernel_rfl) (by simp) (AllReady.cons rfl (fun K hK => ?_) AllReady.nil)
              refine step_append_lies _ (by rfl) _ _ _ (by rfl) w0.heap.size 74 i0 _ 3 24 Tryd.underlying71 hi hz0 hz1 hz2 rfl (by omega) v L.length (rCs L) (by rfl) (hrow2.alloc _) ⟨w2.heap.size, 0, none⟩ 1 1 (rC (k, u)) (by rfl) (by rfl) (cells_three_new _ _ _ _ _) (by simp [rC, Value.oneCell']) (by omega) (by unfold maxLen; omega) (by omega) (by have := hS2.below.size; simp; omega) (w2.heap.size + 1) (by simp) ?_
              intro g' cap1 w3 hown1 hgrow hat hlt3
              obtain ⟨hv1, hv3, hr3, hk3, hb3⟩ := hv2.appended (by decide) hrow2 hS2.below.size (by omega) hown1 hgrow
              have c4 := hv1.cell
              have f4 := hv1.frozen
              refine hK _ _ ?_
              clear hK K
              refine wpAny_ready (rs := [5]) (by kernel_rfl) (by simp) (AllReady.cons rfl (fun K hK => ?_) AllReady.nil)
              go_simp
              refine hK _ _ ?_
              clear hK K
              refine wpAny_done (by kernel_rfl) ?_ _
              go_wp2_with fail
              go_meet
              exact ⟨hS2.below.trans hb3, kept_app2 hS2.wk hrow2 hgrow, _, hv3, by simpa [rCs] using hr3⟩
            · go_simp
              have c3 := (((Below.refl _ w2).alloc (Nat.le_refl _) (.cells #[.int .u32 (ka k), .int .i64 k.length, .int .i64 u] 74)).cell (p := ⟨w0.heap.size, 0, none⟩) hv2.lt).trans c2
              refine hK _ _ ?_
              clear hK K
              refine wpAny_ready (rs := [0]) (by kernel_rfl) (by simp) (AllReady.cons rfl (fun K hK => ?_) AllReady.nil)
              go_simp
              refine hK _ _ ?_
              clear hK K
              refine wpAny_ready (rs := [4]) (by kernel_rfl) (by simp) (AllReady.cons rfl (fun K hK => ?_) AllReady.nil)
              refine step_append_lies _ (by rfl) _ _ _ (by rfl) w0.heap.size 74 i0 _ 3 24 Tryd.underlying71 hi hz0 hz1 hz2 rfl (by omega) v L.length (rCs L) (by rfl) (hrow2.alloc _) ⟨w2.heap.size, 0, none⟩ 1 1 (rC (k, u)) (by rfl) (by rfl) (cells_three_new _ _ _ _ _) (by simp [rC, Value.oneCell']) (by omega) (by unfold maxLen; omega) (by omega) (by have := hS2.below.size; simp; omega) (w2.heap.size + 1) (by simp) ?_
              intro g' cap1 w3 hown1 hgrow hat hlt3
              obtain ⟨hv1, hv3, hr3, hk3, hb3⟩ := hv2.appended (by decide) hrow2 hS2.below.size (by omega) hown1 hgrow
              have c4 := hv1.cell
              have f4 := hv1.frozen
              refine hK _ _ ?_
              clear hK K
              refine wpAny_ready (rs := [5]) (by kernel_rfl) (by simp) (AllReady.cons rfl (fun K hK => ?_) AllReady.nil)
              go_simp
              refine hK _ _ ?_
              clear hK K
              refine wpAny_done (by kernel_rfl) ?_ _
              go_wp2_with fail
              go_meet
              exact ⟨hS2.below.trans hb3, kept_app2 hS2.wk hrow2 hgrow, _, hv3, by simpa [rCs] using hr3⟩
      case rest =>
        go_upto_region 4 with fail
        have HM := Lib.hid (show WS w0 wc (L ++ TT.rowO k (some u)) from hcut)
        clear x0 n3 n4 n5
        have x0 := HM.out.wc
        have n4 := (HIn.out.below HM.out.below).c4
        have n5 := (HIn.out.below HM.out.below).c5
        refine wp_region_tail 6 (by kernel_rfl) (by kernel_rfl) ?_
        simp only [List.take_succ_cons, List.take_zero, List.drop_succ_cons, List.drop_zero]
        repeat still_step
        refine wpStill_nil ?_
        have h1 := HM.out.step (Below.refl _ wc).drew
        have HL1 := Lib.hid (IL.out wc.drew _ HIn.out.2.1 h1 (by simp [TT.rowO]; omega))
        clear h1
        go_upto_region 5 with (go_at_call 66; with_reducible refine HL1.out.mono ?_; rintro e w2 ⟨⟨v2, rfl⟩, hS2⟩; have HS2 := Lib.hid hS2; clear hS2 x0 n4 n5; have x0 := HS2.out.wc; have n5 := (HIn.out.below HS2.out.below).c5)
        refine wp_region_tail 6 (by kernel_rfl) (by kernel_rfl) ?_
        simp only [List.take_succ_cons, List.take_zero, List.drop_succ_cons, List.drop_zero]
        repeat still_step
        refine wpStill_nil ?_
        have h2 := HS2.out.step (Below.refl _ w2).drew
        have HL2 := Lib.hid (IR.out w2.drew _ HIn.out.2.2 h2 (by simp [TT.rowO]; omega))
        clear h2
        go_wp2_with (go_at_call 66; with_reducible refine HL2.out.mono ?_; rintro e w3 ⟨⟨v3, rfl⟩, hS3⟩)
        refine bodyPost_end (results_none rfl _ _ _) rfl ⟨⟨_, rfl⟩, ?_⟩
        rw [show (TT.node b k (some u) lc rc).rows = TT.rowO k (some u) ++ (lc.rows ++ rc.rows) from rfl, ← List.append_assoc, ← List.append_assoc]
        exact hS3
end Go.Proofs.YtbacahoihkpkpaaDoor
