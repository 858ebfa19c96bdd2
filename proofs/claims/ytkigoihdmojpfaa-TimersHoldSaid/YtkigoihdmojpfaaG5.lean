/- The reference: Arm. (Printed by gen_g5.py.) -/
import Derived.Test.YtkigoihdmojpfaaG3
import Derived.Deep.CutBlock
import Derived.IntWalk
namespace Go.Proofs.Ytkigoihdmojpfaa
open Go.RowKit
open Go.Sort (grow)

theorem tw_of {α : Type} {f : α → Bool} : ∀ {L : List α} {i : Nat}, i ≤ L.length → (∀ j, j < i → ∀ x, L[j]? = some x → f x = true) → (∀ x, L[i]? = some x → f x = false) → (L.takeWhile f).length = i
  | [], i, hi, _, _ => by simp at hi; simp [hi]
  | y :: L, 0, _, _, h2 => by
    have := h2 y rfl
    simp [this]
  | y :: L, i + 1, hi, h1, h2 => by
    have h0 := h1 0 (by omega) y rfl
    rw [List.takeWhile_cons, if_pos h0, List.length_cons, tw_of (L := L) (i := i) (by simp at hi; omega) (fun j hj x hx => h1 (j + 1) (by omega) x (by simpa using hx)) (fun x hx => h2 x (by simpa using hx))]
theorem aheadS_le (L : List TR) (r : TR) : aheadS L r ≤ L.length := (List.takeWhile_prefix _).length_le
theorem aheadR_g (r s : TR) (W : World) (d : Nat) (os : Array Obj) : Calls Try.prog 49 #[rowV r, rowV s] (grow (redrawn W d) os) fun e w' => e = .returned (.bool (ltT r s)) ∧ ∃ p : Regrown, w' = grow (redrawn W p.d) p.os :=
  Calls.regrown_of (ahead_any r s _)
def frRel (w0 : World) (r : TR) (L : List TR) (m : Nat) (v : Value) (wr : World) : Prop :=
  ∃ i : Nat, m = L.length - i ∧ i ≤ L.length ∧ v = .int .i64 i ∧ (∀ j, j < i → ∀ x, L[j]? = some x → ltT x r = true) ∧ Below w0.heap.size w0 wr
theorem Src.grown {w W : World} {b o m size : Nat} {news : List Value} {r : Option Nat} (h : Src w (some ⟨b, o, none⟩) m size news) (hg : w.grownBy W r) (hr : r ≠ some b) : Src W (some ⟨b, o, none⟩) m size news :=
  ⟨h.1, fun j u hj => by
    obtain ⟨ad, e, hc⟩ := h.2 j u hj
    cases e
    exact ⟨_, rfl, hg.cell hc (by rw [add_blk]; exact fun e => hr e.symm)⟩⟩
theorem tC_one (x : TR) : ∀ u ∈ tC x, u.oneCell' = true := by
  intro u hu
  simp [tC] at hu
  rcases hu with rfl | rfl | rfl | rfl <;> rfl
theorem tCs_app (A B : List TR) : tCs (A ++ B) = tCs A ++ tCs B := by simp [tCs]

set_option maxRecDepth 100000 in
set_option maxHeartbeats 8000000 in
theorem rArm_arg (v : Value) (g : Nat) (L : List TR) (k a n d : Int) (w : World) (hS : RT w g v L) (a0 : 0 ≤ a) (a1 : a < 4294967296) (hr : rightT k a n = false) :
    Calls Try.prog 30 #[v, keyV k a n, .int .i64 d] w fun e w' => RAns w w' g 0 false 2 L e := by
  have HS0 := Lib.hid hS
  obtain ⟨base, cap, rfl, _, _⟩ := hS.ex
  have HT0 := Lib.hid (B3.start w (.slice base L.length cap) k a n (.slice none 0 0))
  have HK := Lib.hid (fun W => rRightT_any k a n W a0 a1)
  rw [hr] at HK
  unfold keyV at HK ⊢
  have c0 := HT0.out.b1.c0
  have c1 := HT0.out.b1.c1
  have c2 := HT0.out.b1.c2
  clear hr hS
  go_enter Try.func30, Try.ntmps30
  go_upto_region 1 with fail
  generalize (((w.alloc (.cells #[.slice base L.length cap] 37)).alloc (.cells #[.int .i64 k, .int .u32 a, .int .i64 n] 29)).alloc (.cells #[.slice none 0 0] 37)) = X at *
  go_upto_region 2 with (first
    | (go_at_call 17; (with_reducible refine (HK.out _).mono ?_); rintro e w1 ⟨rfl, hb⟩; have HT := Lib.hid (HT0.out.below hb); have d0 := HT.out.b0.c; have e0 := HT.out.b2.c; have e1 := HT.out.b2.f; clear hb)
    | fail)
  go_wp2_with fail
  have hT := HT.out.set (.slice base L.length cap)
  generalize (w1.setCell ⟨w.heap.size + 1 + 1, 0, none⟩ (.slice base L.length cap)) = V at *
  have c0 := hT.b2.c
  exact bodyPost_ret (v := .tuple #[.agg #[.slice base L.length cap], .int .i64 0, .bool false, .int .i64 2]) (by simp [results, Try.results30, go_sem, c0]) rfl ⟨⟨_, g, rfl, HS0.out.below hT.bl, .inl rfl⟩, hT.bl⟩

set_option maxRecDepth 100000 in
set_option maxHeartbeats 8000000 in
theorem rArm_time (v : Value) (g : Nat) (L : List TR) (k a n d : Int) (w : World) (hS : RT w g v L) (a0 : 0 ≤ a) (a1 : a < 4294967296) (hr : rightT k a n = true) (hd : d < 0 ∨ 4611686018427387904 < d) :
    Calls Try.prog 30 #[v, keyV k a n, .int .i64 d] w fun e w' => RAns w w' g 0 false 170 L e := by
  have HS0 := Lib.hid hS
  obtain ⟨base, cap, rfl, _, _⟩ := hS.ex
  have HT0 := Lib.hid (B3.start w (.slice base L.length cap) k a n (.slice none 0 0))
  have HK := Lib.hid (fun W => rRightT_any k a n W a0 a1)
  rw [hr] at HK
  have HM := Lib.hid (fun W => rTime_any d W)
  rw [show decide (0 ≤ d ∧ d ≤ 4611686018427387904) = false by simp; omega] at HM
  clear hd
  unfold keyV at HK ⊢
  have c0 := HT0.out.b1.c0
  have c1 := HT0.out.b1.c1
  have c2 := HT0.out.b1.c2
  clear hr hS
  go_enter Try.func30, Try.ntmps30
  go_upto_region 1 with fail
  generalize (((w.alloc (.cells #[.slice base L.length cap] 37)).alloc (.cells #[.int .i64 k, .int .u32 a, .int .i64 n] 29)).alloc (.cells #[.slice none 0 0] 37)) = X at *
  go_upto_region 4 with (first
    | (go_at_call 17; (with_reducible refine (HK.out _).mono ?_); rintro e w1 ⟨rfl, hb⟩; have HT := Lib.hid (HT0.out.below hb); have d0 := HT.out.b0.c; have e0 := HT.out.b2.c; have e1 := HT.out.b2.f; clear hb)
    | (go_at_call 47; (with_reducible refine (HM.out _).mono ?_); rintro e w9 ⟨rfl, rfl⟩)
    | fail)
  go_wp2_with fail
  have hT := HT.out.set (.slice base L.length cap)
  generalize (w1.setCell ⟨w.heap.size + 1 + 1, 0, none⟩ (.slice base L.length cap)) = V at *
  have c0 := hT.b2.c
  exact bodyPost_ret (v := .tuple #[.agg #[.slice base L.length cap], .int .i64 0, .bool false, .int .i64 170]) (by simp [results, Try.results30, go_sem, c0]) rfl ⟨⟨_, g, rfl, HS0.out.below hT.bl, .inl rfl⟩, hT.bl⟩

set_option maxRecDepth 100000 in
set_option maxHeartbeats 16000000 in
theorem rArm_ok (v : Value) (g : Nat) (L : List TR) (k a n d : Int) (w : World) (hS : RT w g v L) (hl : L.length ≤ 1000) (a0 : 0 ≤ a) (a1 : a < 4294967296) (hr : rightT k a n = true) (hd : 0 ≤ d ∧ d ≤ 4611686018427387904) :
    Calls Try.prog 30 #[v, keyV k a n, .int .i64 d] w fun e w' => RAns w w' g (dueS L k a n).1 (dueS L k a n).2 0 (armS L ⟨k, a, n, d⟩) e := by
  have HS0 := Lib.hid hS
  have HD := Lib.hid (fun W (h : RT W g v L) => rDue_any v g L k a n W h (by omega))
  have HO := Lib.hid (fun W (h : RT W g v L) => without_any v g L k a n W h hl)
  obtain ⟨base, cap, rfl, _, _⟩ := hS.ex
  have HT0 := Lib.hid (B3.start w (.slice base L.length cap) k a n (.slice none 0 0))
  have HK := Lib.hid (fun W => rRightT_any k a n W a0 a1)
  have HM := Lib.hid (fun W => rTime_any d W)
  rw [show decide (0 ≤ d ∧ d ≤ 4611686018427387904) = true by simp; omega] at HM
  rw [hr] at HK
  unfold keyV at HK HD HO ⊢
  have c0 := HT0.out.b1.c0
  have c1 := HT0.out.b1.c1
  have c2 := HT0.out.b1.c2
  have HMl := Lib.hid (show (wo k a n L).length ≤ 1000 by
    have := List.length_filter_le (fun r => !sameK k a n r) L
    unfold wo
    omega)
  obtain ⟨M, hM⟩ : ∃ M, M = wo k a n L := ⟨_, rfl⟩
  obtain ⟨was, hwas⟩ : ∃ x, x = (dueS L k a n).1 := ⟨_, rfl⟩
  obtain ⟨had, hhad⟩ : ∃ x, x = (dueS L k a n).2 := ⟨_, rfl⟩
  have hArm : armS L ⟨k, a, n, d⟩ = insS M ⟨k, a, n, d⟩ := by rw [hM]; rfl
  rw [← hwas, ← hhad] at HD ⊢
  rw [hArm]
  rw [← hM] at HO HMl
  clear hwas hhad hArm hM hr hS hd
  go_enter Try.func30, Try.ntmps30
  go_upto_region 1 with fail
  have HSz := Lib.hid (show (((w.alloc (.cells #[.slice base L.length cap] 37)).alloc (.cells #[.int .i64 k, .int .u32 a, .int .i64 n] 29)).alloc (.cells #[.slice none 0 0] 37)).heap.size = w.heap.size + 1 + 1 + 1 by simp)
  generalize (((w.alloc (.cells #[.slice base L.length cap] 37)).alloc (.cells #[.int .i64 k, .int .u32 a, .int .i64 n] 29)).alloc (.cells #[.slice none 0 0] 37)) = X at *
  go_upto_region 5 with (first
    | (go_at_call 17; (with_reducible refine (HK.out _).mono ?_); rintro e w1 ⟨rfl, hb⟩; have HT := Lib.hid (HT0.out.below hb); clear c0 c1 c2; have d0 := HT.out.b0.c; have c0 := HT.out.b1.c0; have c1 := HT.out.b1.c1; have c2 := HT.out.b1.c2; clear hb)
    | (go_at_call 47; (with_reducible refine (HM.out _).mono ?_); rintro e w9 ⟨rfl, rfl⟩)
    | fail)
  go_upto_region 6 with (go_at_call 14; (with_reducible refine (HD.out _ (HS0.out.below HT.out.bl)).mono ?_); rintro e w2 ⟨rfl, hb⟩; have HT2 := Lib.hid (HT.out.below hb); clear c0 c1 c2 d0; have d0 := HT2.out.b0.c; have c0 := HT2.out.b1.c0; have c1 := HT2.out.b1.c1; have c2 := HT2.out.b1.c2; clear hb)
  go_upto_region 7 with (go_at_call 48; (with_reducible refine (HO.out _ (HS0.out.below HT2.out.bl)).mono ?_); rintro e w3 ⟨⟨v', g', rfl, hrt, hg⟩, hb⟩; obtain ⟨base', cap', rfl, hsl', hcap'⟩ := hrt.ex; have HSl := Lib.hid hsl'; have HG := Lib.hid hg; have HT3 := Lib.hid (HT2.out.below hb); clear c0 c1 c2 d0; have d0 := HT3.out.b0.c; have d1 := HT3.out.b0.f; clear hb hrt hg hsl')
  have hT4 := HT3.out.set0 (.slice base' M.length cap')
  have hsz2 := HT2.out.sz
  have hSl4 := HSl.out.of_block (Below.heap_setCell w3 ⟨w.heap.size, 0, none⟩ (.slice base' M.length cap') g' (show g' ≠ w.heap.size by have := HG.out; omega))
  have HTc0 := Lib.hid hT4
  have HSl4 := Lib.hid hSl4
  have hgw : w.heap.size + 1 + 1 < g' := by have := HG.out; omega
  clear d0 d1 hT4 hSl4
  generalize (w3.setCell ⟨w.heap.size, 0, none⟩ (.slice base' M.length cap')) = w4 at *
  clear HSl
  go_upto_block 0 with fail
  obtain ⟨j, hk⟩ : ∃ j, j = aheadS M ⟨k, a, n, d⟩ := ⟨_, rfl⟩
  have hkl : j ≤ M.length := by rw [hk]; exact aheadS_le _ _
  have hki : insS M ⟨k, a, n, d⟩ = M.take j ++ ⟨k, a, n, d⟩ :: M.drop j := by rw [hk]; rfl
  have HKi := Lib.hid hki
  have HKk := Lib.hid hk
  have hMl := HMl.out
  clear hki hk
  go_cut [12] (fun s wx => s = .int .i64 j ∧ Below w4.heap.size w4 wx)
  case first => as_aux_lemma =>
    go_wp2_with fail
    go_loopg [12] M.length (frRel w4 ⟨k, a, n, d⟩ M)
    case atStart => exact ⟨0, rfl, by omega, rfl, fun j hj => by omega, Below.refl _ _⟩
    case round =>
      obtain ⟨i, hn, hil, rfl, hall, hbl⟩ := hrel
      have Hn := Lib.hid hn
      have HAll := Lib.hid hall
      have HBl := Lib.hid hbl
      have HTr := Lib.hid (HTc0.out.below hbl)
      have c0 := cell_regrown HTr.out.b1.c0
      have c1 := cell_regrown HTr.out.b1.c1
      have c2 := cell_regrown HTr.out.b1.c2
      have c3 := cell_regrown HTr.out.b0.c
      clear hn hall
      by_cases hlt : i < M.length
      · obtain ⟨y, hy⟩ : ∃ y, M[i]? = some y := ⟨_, List.getElem?_eq_getElem hlt⟩
        obtain ⟨rfl, z0, z1', z2, z3⟩ := (HSl4.out.below hbl).row i _ hy
        simp only [Nat.zero_add] at z0 z1' z2 z3
        have HY := Lib.hid hy
        have y0 := cell_regrown z0
        have y1 := cell_regrown z1'
        have y2 := cell_regrown z2
        have y3 := cell_regrown z3
        have HAh := Lib.hid (aheadR_g y ⟨k, a, n, d⟩)
        unfold rowV at HAh
        clear hy hbl z0 z1' z2 z3
        have i1 : (0 : Int) ≤ (i : Int) := by omega
        have i2 : (i : Int) < (M.length : Int) := by omega
        cases hf : ltT y ⟨k, a, n, d⟩ with
        | true =>
          rw [hf] at HAh
          have HF := Lib.hid hf
          clear hf
          go_upto_region 8 with fail
          refine wp_region_quiet_below (by kernel_rfl) (by kernel_rfl) ?_
          repeat (first | go_big_quiet_step (exact HAh.out _ _ _) | quiet_step (exact HAh.out _ _ _))
          refine wpQuiet_nil ?_
          intro _ hw'
          obtain ⟨⟨dq, osq⟩, hw''⟩ := hw'
          subst hw''
          go_wp2_with fail
          go_roundg (M.length - (i + 1))
          case measure => have := Hn.out; omega
          case rel => exact ⟨i + 1, rfl, by omega, by go_num, fun j hj z hz => (by
            by_cases e : j = i
            · subst e; rw [HY.out] at hz; cases hz; exact HF.out
            · exact HAll.out j (by omega) z hz), bthen HBl.out (below_regrown _ _ _)⟩
        | false =>
          rw [hf] at HAh
          have HE := Lib.hid (show aheadS M ⟨k, a, n, d⟩ = i from tw_of hil HAll.out (fun z hz => by rw [HY.out] at hz; cases hz; exact hf))
          clear hf
          go_upto_region 8 with fail
          refine wp_region_quiet_below (by kernel_rfl) (by kernel_rfl) ?_
          repeat (first | go_big_quiet_step (exact HAh.out _ _ _) | quiet_step (exact HAh.out _ _ _))
          refine wpQuiet_nil ?_
          intro _ hw'
          obtain ⟨⟨dq, osq⟩, hw''⟩ := hw'
          subst hw''
          go_wp2_with fail
          go_meet
          exact ⟨by rw [HKk.out, HE.out], bthen HBl.out (below_regrown _ _ _)⟩
      · obtain rfl : i = M.length := by omega
        have HE := Lib.hid (show aheadS M ⟨k, a, n, d⟩ = M.length from tw_of hil HAll.out (fun z hz => by simp at hz))
        go_upto_region 8 with fail
        refine wp_region_quiet_below (by kernel_rfl) (by kernel_rfl) ?_
        repeat (first | go_big_quiet_step (fail) | quiet_step (fail))
        refine wpQuiet_nil ?_
        intro _ hw'
        obtain ⟨⟨dq, osq⟩, hw''⟩ := hw'
        subst hw''
        go_wp2_with fail
        go_meet
        exact ⟨by rw [HKk.out, HE.out], bthen HBl.out (below_regrown _ _ _)⟩
  case rest =>
    obtain ⟨rfl, hbc⟩ := hcut
    have HTc := Lib.hid (HTc0.out.below hbc)
    have d0 := HTc.out.b0.c
    have d1 := HTc.out.b1.c0
    have d2 := HTc.out.b1.c1
    have d3 := HTc.out.b1.c2
    have hrc := HSl4.out.below hbc
    have hsz := HTc.out.sz
    clear hbc HKk HK HM HD HO
    go_upto_region 10 with fail
    obtain ⟨i0, hii, hz0, hz1, hz2⟩ := info_parts info45
    have k1 : (0 : Int) ≤ (j : Int) := by omega
    have k2 : (j : Int) ≤ (M.length : Int) := by omega
    have k3 : (j : Int) ≤ (cap' : Int) := by omega
    have One1 := Lib.hid (tCs_one (M.take j))
    have One2 := Lib.hid (tC_one ⟨k, a, n, d⟩)
    have One3 := Lib.hid (tCs_one (M.drop j))
    have S1 := Lib.hid (show ∀ W', Below wc.heap.size wc W' → Src W' base' j 4 (tCs (M.take j)) from fun W' h => by
      have := ((hrc.below h).take j).src
      rwa [List.length_take, Nat.min_eq_left hkl] at this)
    have HX3 := Lib.hid (show (tCs (M.take j) ++ tC ⟨k, a, n, d⟩) ++ tCs (M.drop j) = tCs (insS M ⟨k, a, n, d⟩) by
      rw [HKi.out, tCs_app]
      simp [tCs])
    have HLn := Lib.hid (show (insS M ⟨k, a, n, d⟩).length = M.length + 1 by
      rw [HKi.out]
      simp
      omega)
    have x0 : w.heap.size < wc.heap.size := by omega
    have x1 : w.heap.size + 1 < wc.heap.size := by omega
    have S3 := Lib.hid (fun W' (h : Below wc.heap.size wc W') => (hrc.below h).cut (k := j) (cap := cap') hkl hcap')
    have m1 : w.heap.size ≠ w.heap.size + 1 + 1 := by omega
    have m2 : w.heap.size + 1 ≠ w.heap.size + 1 + 1 := by omega
    clear hrc
    by_cases hc : cap' = j
    · subst hc
      have hLk : M.length - cap' = 0 := by omega
      have S3 := Lib.hid (show ∀ W', Below wc.heap.size wc W' → Src W' base' 0 4 (tCs (M.drop cap')) from fun W' h => by
        have := S3.out W' h
        rwa [if_pos rfl, hLk] at this)
      clear hLk
      have BA : Below wc.heap.size wc (wc.alloc (.cells #[] 45)).drew := ((Below.refl _ wc).alloc (Nat.le_refl _) _).drew
      have BB : Below wc.heap.size wc ((wc.alloc (.cells #[] 45)).alloc (.cells #[.int .i64 k, .int .u32 a, .int .i64 n, .int .i64 d] 45)).drew := (((Below.refl _ wc).alloc (Nat.le_refl _) _).alloc (by simp) _).drew
      have BC : Below wc.heap.size wc ((wc.alloc (.cells #[.int .i64 k, .int .u32 a, .int .i64 n, .int .i64 d] 45)).alloc (.cells #[] 45)).drew := (((Below.refl _ wc).alloc (Nat.le_refl _) _).alloc (by simp) _).drew
      have RA0 : (wc.alloc (.cells #[] 45)).ownsRow wc.heap.size 45 4 (.slice (some ⟨wc.heap.size, 0, none⟩) 0 0) 0 [] := World.ownsRow_made wc #[] 0 (Nat.le_refl _) (by unfold maxLen; omega) rfl
      have RA : (wc.alloc (.cells #[] 45)).drew.ownsRow wc.heap.size 45 4 (.slice (some ⟨wc.heap.size, 0, none⟩) 0 0) 0 [] := RA0
      have RB : ((wc.alloc (.cells #[] 45)).alloc (.cells #[.int .i64 k, .int .u32 a, .int .i64 n, .int .i64 d] 45)).drew.ownsRow wc.heap.size 45 4 (.slice (some ⟨wc.heap.size, 0, none⟩) 0 0) 0 [] := RA0.alloc _
      have RC : ((wc.alloc (.cells #[.int .i64 k, .int .u32 a, .int .i64 n, .int .i64 d] 45)).alloc (.cells #[] 45)).drew.ownsRow wc.heap.size 45 4 (.slice (some ⟨wc.heap.size + 1, 0, none⟩) 0 0) 0 [] := by
        have := World.ownsRow_made (base := wc.heap.size) (e := 45) (size := 4) (wc.alloc (.cells #[.int .i64 k, .int .u32 a, .int .i64 n, .int .i64 d] 45)) #[] 0 (by simp) (by unfold maxLen; omega) rfl
        rw [World.size_alloc] at this
        exact this
      clear RA0
      have HA3 := Lib.hid BA; have HB3 := Lib.hid BB; have HC3 := Lib.hid BC; have GA3 := Lib.hid RA; have GB3 := Lib.hid RB; have GC3 := Lib.hid RC
      clear BA BB BC RA RB RC
      have CB := Lib.hid (show Src ((wc.alloc (.cells #[] 45)).alloc (.cells #[.int .i64 k, .int .u32 a, .int .i64 n, .int .i64 d] 45)).drew (some ⟨wc.heap.size + 1, 0, none⟩) 1 4 (tC ⟨k, a, n, d⟩) by
        have := src_new (wc.alloc (.cells #[] 45)) #[.int .i64 k, .int .u32 a, .int .i64 n, .int .i64 d] 45 4 rfl
        rw [World.size_alloc] at this
        exact this)
      have CC := Lib.hid (show Src ((wc.alloc (.cells #[.int .i64 k, .int .u32 a, .int .i64 n, .int .i64 d] 45)).alloc (.cells #[] 45)).drew (some ⟨wc.heap.size, 0, none⟩) 1 4 (tC ⟨k, a, n, d⟩) from (src_new wc #[.int .i64 k, .int .u32 a, .int .i64 n, .int .i64 d] 45 4 rfl).below (((Below.refl _ _).alloc (Nat.le_refl _) _).drew))
      go_region_held3 (fun w' => w'.cell? ⟨w.heap.size, 0, none⟩ = some (.slice base' M.length cap') ∧ w'.cell? ⟨w.heap.size + 1, 0, none⟩ = some (.int .i64 k) ∧ w'.cell? ⟨w.heap.size + 1, 1, none⟩ = some (.int .u32 a) ∧ w'.cell? ⟨w.heap.size + 1, 2, none⟩ = some (.int .i64 n))
        (first | with_reducible exact ⟨(set_far m1).trans d0, (set_far m2).trans d1, (set_far m2).trans d2, (set_far m2).trans d3⟩ | exact ⟨cellL hB d0, cellL hB d1, cellL hB d2, cellL hB d3⟩ | go_keep)
        (first
          | (refine step_append_src _ (by rfl) _ _ _ (by rfl) wc.heap.size 45 i0 _ 4 32 Try.underlying35 hii hz0 hz1 hz2 rfl (by omega) (.slice (some ⟨wc.heap.size, 0, none⟩) 0 0) 0 [] (by rfl) GA3.out base' cap' cap' (tCs (M.take cap')) (Or.inl (by simp)) (by rfl) (S1.out _ HA3.out) One1.out cap' (by omega) (tCs (M.take cap')) (by rfl) (by unfold maxLen; omega) (by omega) HA3.out.size ?_; intro g1 c1 w7 hown1 hgrow1 hg1 hat1; have hB := HA3.out.grown hgrow1 HA3.out.size (fun _ e => by simp [Value.ownBlock] at e; omega); have HO1 := Lib.hid hown1; have HG1 := Lib.hid hg1; clear hown1 hgrow1 hat1 hg1)
          | (refine step_append_src _ (by rfl) _ _ _ (by rfl) wc.heap.size 45 i0 _ 4 32 Try.underlying35 hii hz0 hz1 hz2 rfl (by omega) (.slice (some ⟨wc.heap.size, 0, none⟩) 0 0) 0 [] (by rfl) GB3.out base' cap' cap' (tCs (M.take cap')) (Or.inl (by simp)) (by rfl) (S1.out _ HB3.out) One1.out cap' (by omega) (tCs (M.take cap')) (by rfl) (by unfold maxLen; omega) (by omega) HB3.out.size ?_; intro g1 c1 w7 hown1 hgrow1 hg1 hat1; have hB := HB3.out.grown hgrow1 HB3.out.size (fun _ e => by simp [Value.ownBlock] at e; omega); have HO1 := Lib.hid hown1; have HG1 := Lib.hid hg1; have HXC := Lib.hid (CB.out.grown hgrow1 (fun e => by simp [Value.ownBlock] at e)); clear hown1 hgrow1 hat1 hg1)
          | (refine step_append_src _ (by rfl) _ _ _ (by rfl) wc.heap.size 45 i0 _ 4 32 Try.underlying35 hii hz0 hz1 hz2 rfl (by omega) (.slice (some ⟨wc.heap.size + 1, 0, none⟩) 0 0) 0 [] (by rfl) GC3.out base' cap' cap' (tCs (M.take cap')) (Or.inl (by simp)) (by rfl) (S1.out _ HC3.out) One1.out cap' (by omega) (tCs (M.take cap')) (by rfl) (by unfold maxLen; omega) (by omega) HC3.out.size ?_; intro g1 c1 w7 hown1 hgrow1 hg1 hat1; have hB := HC3.out.grown hgrow1 HC3.out.size (fun _ e => by simp [Value.ownBlock] at e; omega); have HO1 := Lib.hid hown1; have HG1 := Lib.hid hg1; have HXC := Lib.hid (CC.out.grown hgrow1 (fun e => by simp [Value.ownBlock] at e)); clear hown1 hgrow1 hat1 hg1)
          | (refine step_append_src (w7.alloc (.cells #[.int .i64 k, .int .u32 a, .int .i64 n, .int .i64 d] 45)) (by rfl) _ _ _ (by rfl) wc.heap.size 45 i0 _ 4 32 Try.underlying35 hii hz0 hz1 hz2 rfl (by omega) (.slice (some ⟨g1, 0, none⟩) cap' c1) cap' (tCs (M.take cap')) (by rfl) (HO1.out.alloc _) (some ⟨w7.heap.size, 0, none⟩) 1 1 (tC ⟨k, a, n, d⟩) (Or.inl (by simp)) (by rfl) (src_new w7 #[.int .i64 k, .int .u32 a, .int .i64 n, .int .i64 d] 45 4 rfl) One2.out (cap' + 1) (by omega) (tCs (M.take cap') ++ tC ⟨k, a, n, d⟩) (by rfl) (by unfold maxLen; omega) (by omega) (bthen hB ((Below.refl _ w7).alloc (Nat.le_refl _) (.cells #[.int .i64 k, .int .u32 a, .int .i64 n, .int .i64 d] 45))).size ?_; intro g2 c2 w8 hown2 hgrow2 hg2 hat2; have hB2 := (bthen hB ((Below.refl _ w7).alloc (Nat.le_refl _) (.cells #[.int .i64 k, .int .u32 a, .int .i64 n, .int .i64 d] 45))).grown hgrow2 (bthen hB ((Below.refl _ w7).alloc (Nat.le_refl _) (.cells #[.int .i64 k, .int .u32 a, .int .i64 n, .int .i64 d] 45))).size (fun _ e => by simp [Value.ownBlock] at e; have := HG1.out; omega); have hB := hB2; have HO2 := Lib.hid hown2; have HG2 := Lib.hid hg2; clear hown2 hgrow2 hat2 hg2 hB2)
          | (refine step_append_src w7 (by rfl) _ _ _ (by rfl) wc.heap.size 45 i0 _ 4 32 Try.underlying35 hii hz0 hz1 hz2 rfl (by omega) (.slice (some ⟨g1, 0, none⟩) cap' c1) cap' (tCs (M.take cap')) (by rfl) HO1.out (some ⟨wc.heap.size + 1, 0, none⟩) 1 1 (tC ⟨k, a, n, d⟩) (Or.inl (by simp)) (by rfl) HXC.out One2.out (cap' + 1) (by omega) (tCs (M.take cap') ++ tC ⟨k, a, n, d⟩) (by rfl) (by unfold maxLen; omega) (by omega) hB.size ?_; intro g2 c2 w8 hown2 hgrow2 hg2 hat2; have hB2 := hB.grown hgrow2 hB.size (fun _ e => by simp [Value.ownBlock] at e; have := HG1.out; omega); have hB := hB2; have HO2 := Lib.hid hown2; have HG2 := Lib.hid hg2; clear hown2 hgrow2 hat2 hg2 hB2)
          | (refine step_append_src w7 (by rfl) _ _ _ (by rfl) wc.heap.size 45 i0 _ 4 32 Try.underlying35 hii hz0 hz1 hz2 rfl (by omega) (.slice (some ⟨g1, 0, none⟩) cap' c1) cap' (tCs (M.take cap')) (by rfl) HO1.out (some ⟨wc.heap.size, 0, none⟩) 1 1 (tC ⟨k, a, n, d⟩) (Or.inl (by simp)) (by rfl) HXC.out One2.out (cap' + 1) (by omega) (tCs (M.take cap') ++ tC ⟨k, a, n, d⟩) (by rfl) (by unfold maxLen; omega) (by omega) hB.size ?_; intro g2 c2 w8 hown2 hgrow2 hg2 hat2; have hB2 := hB.grown hgrow2 hB.size (fun _ e => by simp [Value.ownBlock] at e; have := HG1.out; omega); have hB := hB2; have HO2 := Lib.hid hown2; have HG2 := Lib.hid hg2; clear hown2 hgrow2 hat2 hg2 hB2)
          | (refine step_append_src w8 (by rfl) _ _ _ (by rfl) wc.heap.size 45 i0 _ 4 32 Try.underlying35 hii hz0 hz1 hz2 rfl (by omega) (.slice (some ⟨g2, 0, none⟩) (cap' + 1) c2) (cap' + 1) (tCs (M.take cap') ++ tC ⟨k, a, n, d⟩) (by rfl) HO2.out base' 0 0 (tCs (M.drop cap')) (Or.inl (by simp)) (by rfl) (S3.out _ hB) One3.out (M.length + 1) (by omega) (tCs (insS M ⟨k, a, n, d⟩)) HX3.out (by unfold maxLen; omega) (by omega) hB.size ?_; intro g3 c3 w9 hown3 hgrow3 hg3 hat3; have hB3 := hB.grown hgrow3 hB.size (fun _ e => by simp [Value.ownBlock] at e; have := HG2.out; omega); have hB := hB3; have HO3 := Lib.hid hown3; have HG3 := Lib.hid hg3; have hx9 := HTc.out.below hB; have d0 := hx9.b0.c; have d1 := hx9.b1.c0; have d2 := hx9.b1.c1; have d3 := hx9.b1.c2; have e0 := hx9.b2.c; have e1 := hx9.b2.f; have HX9 := Lib.hid hx9; clear hx9; clear hown3 hgrow3 hat3 hg3 hB3))
      all_goals
        clear e0 e1 d0 d1 d2 d3
        have hx7 := HX9.out.set (.slice (some ⟨g3, 0, none⟩) (M.length + 1) c3)
        have hrow := rt_of_row (L := insS M ⟨k, a, n, d⟩) (by rw [HLn.out]; exact HO3.out) (by have := HO3.out.lt g3 rfl; omega)
        rw [HLn.out] at hrow
        obtain ⟨g4, b4, cp4, hv4, hRT, hg4, hg5⟩ := hrow
        clear hv4
        have hg6 := HO3.out.lt
        have hr7 := hRT.of_block (Below.heap_setCell w9 ⟨w.heap.size + 1 + 1, 0, none⟩ (.slice (some ⟨g3, 0, none⟩) (M.length + 1) c3) g4 (show g4 ≠ w.heap.size + 1 + 1 by omega))
        have HX7 := Lib.hid hx7
        have HR7 := Lib.hid hr7
        clear hx7 hr7 hg5 hg6 hRT
        go_wp2_with fail
        generalize (w9.setCell ⟨w.heap.size + 1 + 1, 0, none⟩ (.slice (some ⟨g3, 0, none⟩) (M.length + 1) c3)) = V at *
        have c0 := HX7.out.b2.c
        exact bodyPost_ret (v := .tuple #[.agg #[.slice (some ⟨g3, 0, none⟩) (M.length + 1) c3], .int .i64 was, .bool had, .int .i64 0]) (by simp [results, Try.results30, go_sem, c0]) rfl ⟨⟨_, g4, rfl, HR7.out, .inr (by omega)⟩, HX7.out.bl⟩

    · have S3 := Lib.hid (show ∀ W', Below wc.heap.size wc W' → Src W' (base'.map (·.add (j * 4))) (M.length - j) 4 (tCs (M.drop j)) from fun W' h => by
        have := S3.out W' h
        rwa [if_neg hc] at this)
      have BA : Below wc.heap.size wc (wc.alloc (.cells #[] 45)).drew := ((Below.refl _ wc).alloc (Nat.le_refl _) _).drew
      have BB : Below wc.heap.size wc ((wc.alloc (.cells #[] 45)).alloc (.cells #[.int .i64 k, .int .u32 a, .int .i64 n, .int .i64 d] 45)).drew := (((Below.refl _ wc).alloc (Nat.le_refl _) _).alloc (by simp) _).drew
      have BC : Below wc.heap.size wc ((wc.alloc (.cells #[.int .i64 k, .int .u32 a, .int .i64 n, .int .i64 d] 45)).alloc (.cells #[] 45)).drew := (((Below.refl _ wc).alloc (Nat.le_refl _) _).alloc (by simp) _).drew
      have RA0 : (wc.alloc (.cells #[] 45)).ownsRow wc.heap.size 45 4 (.slice (some ⟨wc.heap.size, 0, none⟩) 0 0) 0 [] := World.ownsRow_made wc #[] 0 (Nat.le_refl _) (by unfold maxLen; omega) rfl
      have RA : (wc.alloc (.cells #[] 45)).drew.ownsRow wc.heap.size 45 4 (.slice (some ⟨wc.heap.size, 0, none⟩) 0 0) 0 [] := RA0
      have RB : ((wc.alloc (.cells #[] 45)).alloc (.cells #[.int .i64 k, .int .u32 a, .int .i64 n, .int .i64 d] 45)).drew.ownsRow wc.heap.size 45 4 (.slice (some ⟨wc.heap.size, 0, none⟩) 0 0) 0 [] := RA0.alloc _
      have RC : ((wc.alloc (.cells #[.int .i64 k, .int .u32 a, .int .i64 n, .int .i64 d] 45)).alloc (.cells #[] 45)).drew.ownsRow wc.heap.size 45 4 (.slice (some ⟨wc.heap.size + 1, 0, none⟩) 0 0) 0 [] := by
        have := World.ownsRow_made (base := wc.heap.size) (e := 45) (size := 4) (wc.alloc (.cells #[.int .i64 k, .int .u32 a, .int .i64 n, .int .i64 d] 45)) #[] 0 (by simp) (by unfold maxLen; omega) rfl
        rw [World.size_alloc] at this
        exact this
      clear RA0
      have HA3 := Lib.hid BA; have HB3 := Lib.hid BB; have HC3 := Lib.hid BC; have GA3 := Lib.hid RA; have GB3 := Lib.hid RB; have GC3 := Lib.hid RC
      clear BA BB BC RA RB RC
      have CB := Lib.hid (show Src ((wc.alloc (.cells #[] 45)).alloc (.cells #[.int .i64 k, .int .u32 a, .int .i64 n, .int .i64 d] 45)).drew (some ⟨wc.heap.size + 1, 0, none⟩) 1 4 (tC ⟨k, a, n, d⟩) by
        have := src_new (wc.alloc (.cells #[] 45)) #[.int .i64 k, .int .u32 a, .int .i64 n, .int .i64 d] 45 4 rfl
        rw [World.size_alloc] at this
        exact this)
      have CC := Lib.hid (show Src ((wc.alloc (.cells #[.int .i64 k, .int .u32 a, .int .i64 n, .int .i64 d] 45)).alloc (.cells #[] 45)).drew (some ⟨wc.heap.size, 0, none⟩) 1 4 (tC ⟨k, a, n, d⟩) from (src_new wc #[.int .i64 k, .int .u32 a, .int .i64 n, .int .i64 d] 45 4 rfl).below (((Below.refl _ _).alloc (Nat.le_refl _) _).drew))
      go_region_held3 (fun w' => w'.cell? ⟨w.heap.size, 0, none⟩ = some (.slice base' M.length cap') ∧ w'.cell? ⟨w.heap.size + 1, 0, none⟩ = some (.int .i64 k) ∧ w'.cell? ⟨w.heap.size + 1, 1, none⟩ = some (.int .u32 a) ∧ w'.cell? ⟨w.heap.size + 1, 2, none⟩ = some (.int .i64 n))
        (first | with_reducible exact ⟨(set_far m1).trans d0, (set_far m2).trans d1, (set_far m2).trans d2, (set_far m2).trans d3⟩ | exact ⟨cellL hB d0, cellL hB d1, cellL hB d2, cellL hB d3⟩ | go_keep)
        (first
          | (refine step_append_src _ (by rfl) _ _ _ (by rfl) wc.heap.size 45 i0 _ 4 32 Try.underlying35 hii hz0 hz1 hz2 rfl (by omega) (.slice (some ⟨wc.heap.size, 0, none⟩) 0 0) 0 [] (by rfl) GA3.out base' j cap' (tCs (M.take j)) (Or.inl (by simp)) (by rfl) (S1.out _ HA3.out) One1.out j (by omega) (tCs (M.take j)) (by rfl) (by unfold maxLen; omega) (by omega) HA3.out.size ?_; intro g1 c1 w7 hown1 hgrow1 hg1 hat1; have hB := HA3.out.grown hgrow1 HA3.out.size (fun _ e => by simp [Value.ownBlock] at e; omega); have HO1 := Lib.hid hown1; have HG1 := Lib.hid hg1; clear hown1 hgrow1 hat1 hg1)
          | (refine step_append_src _ (by rfl) _ _ _ (by rfl) wc.heap.size 45 i0 _ 4 32 Try.underlying35 hii hz0 hz1 hz2 rfl (by omega) (.slice (some ⟨wc.heap.size, 0, none⟩) 0 0) 0 [] (by rfl) GB3.out base' j cap' (tCs (M.take j)) (Or.inl (by simp)) (by rfl) (S1.out _ HB3.out) One1.out j (by omega) (tCs (M.take j)) (by rfl) (by unfold maxLen; omega) (by omega) HB3.out.size ?_; intro g1 c1 w7 hown1 hgrow1 hg1 hat1; have hB := HB3.out.grown hgrow1 HB3.out.size (fun _ e => by simp [Value.ownBlock] at e; omega); have HO1 := Lib.hid hown1; have HG1 := Lib.hid hg1; have HXC := Lib.hid (CB.out.grown hgrow1 (fun e => by simp [Value.ownBlock] at e)); clear hown1 hgrow1 hat1 hg1)
          | (refine step_append_src _ (by rfl) _ _ _ (by rfl) wc.heap.size 45 i0 _ 4 32 Try.underlying35 hii hz0 hz1 hz2 rfl (by omega) (.slice (some ⟨wc.heap.size + 1, 0, none⟩) 0 0) 0 [] (by rfl) GC3.out base' j cap' (tCs (M.take j)) (Or.inl (by simp)) (by rfl) (S1.out _ HC3.out) One1.out j (by omega) (tCs (M.take j)) (by rfl) (by unfold maxLen; omega) (by omega) HC3.out.size ?_; intro g1 c1 w7 hown1 hgrow1 hg1 hat1; have hB := HC3.out.grown hgrow1 HC3.out.size (fun _ e => by simp [Value.ownBlock] at e; omega); have HO1 := Lib.hid hown1; have HG1 := Lib.hid hg1; have HXC := Lib.hid (CC.out.grown hgrow1 (fun e => by simp [Value.ownBlock] at e)); clear hown1 hgrow1 hat1 hg1)
          | (refine step_append_src (w7.alloc (.cells #[.int .i64 k, .int .u32 a, .int .i64 n, .int .i64 d] 45)) (by rfl) _ _ _ (by rfl) wc.heap.size 45 i0 _ 4 32 Try.underlying35 hii hz0 hz1 hz2 rfl (by omega) (.slice (some ⟨g1, 0, none⟩) j c1) j (tCs (M.take j)) (by rfl) (HO1.out.alloc _) (some ⟨w7.heap.size, 0, none⟩) 1 1 (tC ⟨k, a, n, d⟩) (Or.inl (by simp)) (by rfl) (src_new w7 #[.int .i64 k, .int .u32 a, .int .i64 n, .int .i64 d] 45 4 rfl) One2.out (j + 1) (by omega) (tCs (M.take j) ++ tC ⟨k, a, n, d⟩) (by rfl) (by unfold maxLen; omega) (by omega) (bthen hB ((Below.refl _ w7).alloc (Nat.le_refl _) (.cells #[.int .i64 k, .int .u32 a, .int .i64 n, .int .i64 d] 45))).size ?_; intro g2 c2 w8 hown2 hgrow2 hg2 hat2; have hB2 := (bthen hB ((Below.refl _ w7).alloc (Nat.le_refl _) (.cells #[.int .i64 k, .int .u32 a, .int .i64 n, .int .i64 d] 45))).grown hgrow2 (bthen hB ((Below.refl _ w7).alloc (Nat.le_refl _) (.cells #[.int .i64 k, .int .u32 a, .int .i64 n, .int .i64 d] 45))).size (fun _ e => by simp [Value.ownBlock] at e; have := HG1.out; omega); have hB := hB2; have HO2 := Lib.hid hown2; have HG2 := Lib.hid hg2; clear hown2 hgrow2 hat2 hg2 hB2)
          | (refine step_append_src w7 (by rfl) _ _ _ (by rfl) wc.heap.size 45 i0 _ 4 32 Try.underlying35 hii hz0 hz1 hz2 rfl (by omega) (.slice (some ⟨g1, 0, none⟩) j c1) j (tCs (M.take j)) (by rfl) HO1.out (some ⟨wc.heap.size + 1, 0, none⟩) 1 1 (tC ⟨k, a, n, d⟩) (Or.inl (by simp)) (by rfl) HXC.out One2.out (j + 1) (by omega) (tCs (M.take j) ++ tC ⟨k, a, n, d⟩) (by rfl) (by unfold maxLen; omega) (by omega) hB.size ?_; intro g2 c2 w8 hown2 hgrow2 hg2 hat2; have hB2 := hB.grown hgrow2 hB.size (fun _ e => by simp [Value.ownBlock] at e; have := HG1.out; omega); have hB := hB2; have HO2 := Lib.hid hown2; have HG2 := Lib.hid hg2; clear hown2 hgrow2 hat2 hg2 hB2)
          | (refine step_append_src w7 (by rfl) _ _ _ (by rfl) wc.heap.size 45 i0 _ 4 32 Try.underlying35 hii hz0 hz1 hz2 rfl (by omega) (.slice (some ⟨g1, 0, none⟩) j c1) j (tCs (M.take j)) (by rfl) HO1.out (some ⟨wc.heap.size, 0, none⟩) 1 1 (tC ⟨k, a, n, d⟩) (Or.inl (by simp)) (by rfl) HXC.out One2.out (j + 1) (by omega) (tCs (M.take j) ++ tC ⟨k, a, n, d⟩) (by rfl) (by unfold maxLen; omega) (by omega) hB.size ?_; intro g2 c2 w8 hown2 hgrow2 hg2 hat2; have hB2 := hB.grown hgrow2 hB.size (fun _ e => by simp [Value.ownBlock] at e; have := HG1.out; omega); have hB := hB2; have HO2 := Lib.hid hown2; have HG2 := Lib.hid hg2; clear hown2 hgrow2 hat2 hg2 hB2)
          | (refine step_append_src w8 (by rfl) _ _ _ (by rfl) wc.heap.size 45 i0 _ 4 32 Try.underlying35 hii hz0 hz1 hz2 rfl (by omega) (.slice (some ⟨g2, 0, none⟩) (j + 1) c2) (j + 1) (tCs (M.take j) ++ tC ⟨k, a, n, d⟩) (by rfl) HO2.out (base'.map (·.add (j * 4))) (M.length - j) (cap' - j) (tCs (M.drop j)) (Or.inl (by simp)) (by rfl) (S3.out _ hB) One3.out (M.length + 1) (by omega) (tCs (insS M ⟨k, a, n, d⟩)) HX3.out (by unfold maxLen; omega) (by omega) hB.size ?_; intro g3 c3 w9 hown3 hgrow3 hg3 hat3; have hB3 := hB.grown hgrow3 hB.size (fun _ e => by simp [Value.ownBlock] at e; have := HG2.out; omega); have hB := hB3; have HO3 := Lib.hid hown3; have HG3 := Lib.hid hg3; have hx9 := HTc.out.below hB; have d0 := hx9.b0.c; have d1 := hx9.b1.c0; have d2 := hx9.b1.c1; have d3 := hx9.b1.c2; have e0 := hx9.b2.c; have e1 := hx9.b2.f; have HX9 := Lib.hid hx9; clear hx9; clear hown3 hgrow3 hat3 hg3 hB3))
      all_goals
        clear e0 e1 d0 d1 d2 d3
        have hx7 := HX9.out.set (.slice (some ⟨g3, 0, none⟩) (M.length + 1) c3)
        have hrow := rt_of_row (L := insS M ⟨k, a, n, d⟩) (by rw [HLn.out]; exact HO3.out) (by have := HO3.out.lt g3 rfl; omega)
        rw [HLn.out] at hrow
        obtain ⟨g4, b4, cp4, hv4, hRT, hg4, hg5⟩ := hrow
        clear hv4
        have hg6 := HO3.out.lt
        have hr7 := hRT.of_block (Below.heap_setCell w9 ⟨w.heap.size + 1 + 1, 0, none⟩ (.slice (some ⟨g3, 0, none⟩) (M.length + 1) c3) g4 (show g4 ≠ w.heap.size + 1 + 1 by omega))
        have HX7 := Lib.hid hx7
        have HR7 := Lib.hid hr7
        clear hx7 hr7 hg5 hg6 hRT
        go_wp2_with fail
        generalize (w9.setCell ⟨w.heap.size + 1 + 1, 0, none⟩ (.slice (some ⟨g3, 0, none⟩) (M.length + 1) c3)) = V at *
        have c0 := HX7.out.b2.c
        exact bodyPost_ret (v := .tuple #[.agg #[.slice (some ⟨g3, 0, none⟩) (M.length + 1) c3], .int .i64 was, .bool had, .int .i64 0]) (by simp [results, Try.results30, go_sem, c0]) rfl ⟨⟨_, g4, rfl, HR7.out, .inr (by omega)⟩, HX7.out.bl⟩
end Go.Proofs.Ytkigoihdmojpfaa
