/- The reference: Sort. (Printed by gen_q1.py.) -/
import Derived.Test.YtmmoccceafcfkaaDoorQ0
namespace Go.Proofs.YtmmoccceafcfkaaDoor
open Go.RowKit Go.Shelf Go.Maps
open Go.Sort (grow)

theorem row_weaken {W : World} {B B' n size : Nat} {e : TypeId} {v : Value} {xs : List Value} (h : W.ownsRow B' e size v n xs) (hB : B ≤ B') : W.ownsRow B e size v n xs := by
  refine ⟨h.1, ?_⟩
  rcases h.2 with h2 | ⟨g, cap, cur, h2, h3, h4⟩
  · exact .inl h2
  · exact .inr ⟨g, cap, cur, h2, Nat.le_trans hB h3, h4⟩

def srRel (W0 : World) (K : List Pf) (m : Nat) (v3 v4 : Value) (wr : World) : Prop :=
  ∃ (i : Nat) (M : List Pf), m = K.length - i ∧ i ≤ K.length ∧ v4 = .int .i64 i ∧ wr.ownsRow W0.heap.size 25 2 v3 M.length (kCs M) ∧ OrdP M ∧ (∀ x, x ∈ M ↔ x ∈ K.take i) ∧ M.length ≤ i ∧ Below W0.heap.size W0 wr
/-- how far the place of x is found -/
def plc (M : List Pf) (x : Pf) (j : Nat) (c : Bool) : Prop := j ≤ M.length ∧ (∀ i, i < j → ∀ y, M[i]? = some y → ¬ plt x y) ∧ (c = true ↔ x ∈ M.take j)
def inRel (wo : World) (M : List Pf) (x : Pf) (m : Nat) (v5 v6 : Value) (wr : World) : Prop :=
  ∃ (j : Nat) (c : Bool), m = M.length - j ∧ plc M x j c ∧ v5 = .int .i64 j ∧ v6 = .bool c ∧ Below wo.heap.size wo wr
theorem plc_step {M : List Pf} {x y : Pf} {j : Nat} {c : Bool} (h : plc M x j c) (hy : M[j]? = some y) (hle : ¬ plt x y) : plc M x (j + 1) (c || decide (y = x)) := by
  obtain ⟨h1, h2, h3⟩ := h
  have hl := (List.getElem?_eq_some_iff.1 hy).1
  refine ⟨by omega, fun i hi z hz => ?_, ?_⟩
  · by_cases e : i = j
    · subst e; rw [hy] at hz; cases hz; exact hle
    · exact h2 i (by omega) z hz
  · rw [List.take_succ_eq_append_getElem hl]
    have e : M[j] = y := by rw [List.getElem?_eq_getElem hl] at hy; exact Option.some.inj hy
    simp only [Bool.or_eq_true, decide_eq_true_eq, List.mem_append, List.mem_singleton, e, h3]
    constructor
    · rintro (h | h)
      · exact .inl h
      · exact .inr h.symm
    · rintro (h | h)
      · exact .inl h
      · exact .inr h.symm
theorem plc_in {M : List Pf} {x : Pf} {j : Nat} {c : Bool} (hO : OrdP M) (h : plc M x j c) (hn : ∀ y, M[j]? = some y → plt x y) : c = true ↔ x ∈ M := by
  obtain ⟨h1, h2, h3⟩ := h
  rw [h3]
  refine ⟨List.mem_of_mem_take, fun hm => ?_⟩
  obtain ⟨i, hi, e⟩ := List.mem_iff_getElem.1 hm
  rcases Nat.lt_or_ge i j with hij | hij
  · exact List.mem_take_iff_getElem.2 ⟨i, by omega, e⟩
  · have hx : M[i]? = some x := by rw [List.getElem?_eq_getElem hi, e]
    rcases Nat.eq_or_lt_of_le hij with e1 | e1
    · subst e1
      exact absurd (hn x hx) (plt_irrefl x)
    · have hj : j < M.length := by omega
      have h5 := hn _ (List.getElem?_eq_getElem hj)
      have h6 : plt M[j] x := by
        have := List.pairwise_iff_getElem.1 hO j i hj hi e1
        rwa [e] at this
      exact absurd h6 (plt_asymm h5)
theorem plc_new {M : List Pf} {x : Pf} {j : Nat} (hO : OrdP M) (h : plc M x j false) (hn : ∀ y, M[j]? = some y → plt x y) : OrdP (M.take j ++ x :: M.drop j) ∧ ∀ y, y ∈ M.take j ++ x :: M.drop j ↔ y = x ∨ y ∈ M := by
  obtain ⟨h1, h2, h3⟩ := h
  refine insK_ok hO (fun y hy => ?_) hn
  obtain ⟨i, hi, e⟩ := List.mem_take_iff_getElem.1 hy
  have hyi : M[i]? = some y := by rw [List.getElem?_eq_getElem (by omega), e]
  have hne : y ≠ x := fun e2 => by
    have := h3.2 (e2 ▸ hy)
    cases this
  have hnk := h2 i (by omega) y hyi
  rcases Classical.em (plt y x) with hk | hk
  · exact hk
  · exact absurd (plt_tri hk hnk) hne

set_option maxRecDepth 100000 in
set_option maxHeartbeats 8000000 in
theorem rSort_any (base : Option Addr) (g o cap : Nat) (K : List Pf) (w : World) (hS : KO w base g o K) (hl : K.length ≤ 100000) :
    Calls Tryd.prog 54 #[.slice base K.length cap] w fun e w' => ∃ v M, e = .returned v ∧ KSl w' v M ∧ OrdP M ∧ (∀ x, x ∈ M ↔ x ∈ K) ∧ M.length ≤ K.length ∧ Below w.heap.size w w' := by
  have HS := Lib.hid hS
  obtain ⟨i0, hii, hz0, hz1, hz2⟩ := info_parts info25
  clear hS
  go_enter Tryd.func54, Tryd.ntmps54
  go_wp2_with fail
  go_loopg [3, 4] K.length (srRel w K)
  case atStart => exact ⟨0, [], rfl, by omega, rfl, World.ownsRow_nil _ _ _ _, List.Pairwise.nil, by simp, by simp, Below.refl _ _⟩
  case round =>
    obtain ⟨i, M, hn, hil, rfl, hrow, hO, hm, hml, hbl⟩ := hrel
    have Hn := Lib.hid hn
    have HO := Lib.hid hO
    have HM := Lib.hid hm
    have HBl := Lib.hid hbl
    obtain ⟨base2, g2, cap2, rfl, hkl, hcap2, hbg⟩ := kl_of_row hrow (by have := HS.out.lt; have := hbl.size; omega)
    have HKl := Lib.hid hkl
    have HRow := Lib.hid hrow
    clear hn hO hm hrow hkl hbl hbg
    by_cases hlt : i < K.length
    · obtain ⟨x, hx⟩ : ∃ x, K[i]? = some x := ⟨_, List.getElem?_eq_getElem hlt⟩
      obtain ⟨rfl, x0, x1⟩ := (HS.out.below HBl.out).row i x hx
      have HX := Lib.hid hx
      have HXc := Lib.hid (show ∀ W', Below wr.heap.size wr W' → W'.cell? ⟨g, o + i * 2, none⟩ = some (.int .u32 (x.1)) ∧ W'.cell? ⟨g, o + i * 2 + 1, none⟩ = some (.int .i64 x.2) from fun W' h => ⟨cellL h x0, cellL h x1⟩)
      have i1 : (0 : Int) ≤ (i : Int) := by omega
      have i2 : (i : Int) < (K.length : Int) := by omega
      clear hx x0 x1
      go_upto_block 2 with fail
      obtain ⟨wo, hwo⟩ : ∃ wo : World, wo = wr := ⟨_, rfl⟩
      have HWo := Lib.hid hwo
      clear hwo
      go_cut [5, 6] (fun v5 v6 wx => ∃ (j : Nat) (c : Bool), v5 = .int .i64 j ∧ v6 = .bool c ∧ plc M x j c ∧ (∀ y, M[j]? = some y → plt x y) ∧ Below wr.heap.size wr wx)
      case first => as_aux_lemma =>
        go_wp2_with fail
        go_loopg [5, 6] M.length (inRel wo M x)
        case atStart => exact ⟨0, false, rfl, ⟨by omega, fun i hi => by omega, by simp⟩, rfl, rfl, by rw [HWo.out]; exact Below.refl _ _⟩
        case round =>
          obtain ⟨j, cc, hnj, hplc, rfl, rfl, hbj⟩ := hrel
          have Hnj := Lib.hid hnj
          have HPl := Lib.hid hplc
          have hjl := hplc.1
          rw [HWo.out] at hbj
          have HBj := Lib.hid hbj
          clear hnj hplc hbj
          obtain ⟨x0, x1⟩ := HXc.out _ HBj.out
          have xg0 := cell_regrown x0
          have xg1 := cell_regrown x1
          clear x0 x1
          by_cases hjt : j < M.length
          · obtain ⟨y, hy⟩ : ∃ y, M[j]? = some y := ⟨_, List.getElem?_eq_getElem hjt⟩
            obtain ⟨rfl, z0, z1⟩ := (HKl.out.below HBj.out).row j y hy
            have HY := Lib.hid hy
            have y0 := cell_regrown z0
            have y1 := cell_regrown z1
            have j1 : (0 : Int) ≤ (j : Int) := by omega
            have j2 : (j : Int) < (M.length : Int) := by omega
            by_cases hk : plt x y
            · have t1 : decide (ordI (y.1) y.2 (x.1) x.2 ≤ 0) = false := by
                have := ord_le x y
                simp only [decide_eq_false_iff_not, this, Classical.not_not]
                exact hk
              have HKt := Lib.hid hk
              clear hk hy z0 z1
              go_upto_region 6 with fail
              refine wp_region_quiet_below (by kernel_rfl) (by kernel_rfl) ?_
              repeat (first | go_big_quiet_step (with_reducible exact orderR_g _ _ _ _ _ _ _) | quiet_step (with_reducible exact orderR_g _ _ _ _ _ _ _))
              refine wpQuiet_nil ?_
              intro _ hw'
              obtain ⟨⟨dq, osq⟩, hw''⟩ := hw'
              subst hw''
              go_wp2_with fail
              go_meet
              exact ⟨j, cc, rfl, rfl, HPl.out, fun z hz => by rw [HY.out] at hz; cases hz; exact HKt.out, bthen HBj.out (below_regrown _ _ _)⟩
            · have t1 : decide (ordI (y.1) y.2 (x.1) x.2 ≤ 0) = true := by
                have := ord_le x y
                simp only [decide_eq_true_eq, this]
                exact hk
              have HSt := Lib.hid (plc_step HPl.out HY.out hk)
              clear hk hy z0 z1
              go_upto_region 6 with fail
              refine wp_region_quiet_below (by kernel_rfl) (by kernel_rfl) ?_
              repeat (first | go_big_quiet_step (with_reducible exact orderR_g _ _ _ _ _ _ _) | quiet_step (with_reducible exact orderR_g _ _ _ _ _ _ _))
              refine wpQuiet_nil ?_
              intro _ hw'
              obtain ⟨⟨dq, osq⟩, hw''⟩ := hw'
              subst hw''
              have HBk := Lib.hid (bthen HBj.out (below_regrown wr dq osq))
              have z0 := y0 dq osq
              have z1 := y1 dq osq
              have x0 := xg0 dq osq
              have x1 := xg1 dq osq
              clear y0 y1 xg0 xg1
              generalize grow (redrawn wr dq) osq = V at *
              have y0 := cell_regrown z0
              have y1 := cell_regrown z1
              have xg0 := cell_regrown x0
              have xg1 := cell_regrown x1
              clear z0 z1 x0 x1
              cases cc with
              | true =>
                simp only [Bool.true_or] at HSt
                go_upto_region 7 with fail
                refine wp_region_quiet_below (by kernel_rfl) (by kernel_rfl) ?_
                repeat (first | go_big_quiet_step (fail) | quiet_step (fail))
                refine wpQuiet_nil ?_
                intro _ hw'
                obtain ⟨⟨dq2, osq2⟩, hw''⟩ := hw'
                subst hw''
                go_wp2_with fail
                go_roundg (M.length - (j + 1))
                case measure => have := Hnj.out; omega
                case rel => exact ⟨j + 1, true, rfl, HSt.out, by go_num, rfl, by rw [HWo.out]; exact bthen HBk.out (below_regrown _ _ _)⟩
              | false =>
                simp only [Bool.false_or] at HSt
                by_cases f0 : y.1 = x.1
                · by_cases f1 : y.2 = x.2
                  · obtain rfl := Prod.ext f0 f1
                    have HSt2 := Lib.hid HSt.out
                    rw [decide_eq_true rfl] at HSt2
                    clear HSt f0 f1
                    go_upto_region 7 with fail
                    refine wp_region_quiet_below (by kernel_rfl) (by kernel_rfl) ?_
                    repeat (first | go_big_quiet_step (fail) | quiet_step (fail))
                    refine wpQuiet_nil ?_
                    intro _ hw'
                    obtain ⟨⟨dq2, osq2⟩, hw''⟩ := hw'
                    subst hw''
                    go_wp2_with fail
                    go_roundg (M.length - (j + 1))
                    case measure => have := Hnj.out; omega
                    case rel => exact ⟨j + 1, true, rfl, HSt2.out, by go_num, rfl, by rw [HWo.out]; exact bthen HBk.out (below_regrown _ _ _)⟩
                  · have t2 : (y.2 == x.2) = false := by simpa using f1
                    have HSt2 := Lib.hid HSt.out
                    rw [decide_eq_false (fun e => f1 (by rw [e]))] at HSt2
                    rw [f0] at y0
                    clear HSt f0 f1
                    go_upto_region 7 with fail
                    refine wp_region_quiet_below (by kernel_rfl) (by kernel_rfl) ?_
                    repeat (first | go_big_quiet_step (fail) | quiet_step (fail))
                    refine wpQuiet_nil ?_
                    intro _ hw'
                    obtain ⟨⟨dq2, osq2⟩, hw''⟩ := hw'
                    subst hw''
                    go_wp2_with fail
                    go_roundg (M.length - (j + 1))
                    case measure => have := Hnj.out; omega
                    case rel => exact ⟨j + 1, false, rfl, HSt2.out, by go_num, rfl, by rw [HWo.out]; exact bthen HBk.out (below_regrown _ _ _)⟩
                · have t2 : (y.1 == x.1) = false := by simpa using f0
                  have HSt2 := Lib.hid HSt.out
                  rw [decide_eq_false (fun e => f0 (by rw [e]))] at HSt2
                  clear HSt f0
                  go_upto_region 7 with fail
                  refine wp_region_quiet_below (by kernel_rfl) (by kernel_rfl) ?_
                  repeat (first | go_big_quiet_step (fail) | quiet_step (fail))
                  refine wpQuiet_nil ?_
                  intro _ hw'
                  obtain ⟨⟨dq2, osq2⟩, hw''⟩ := hw'
                  subst hw''
                  go_wp2_with fail
                  go_roundg (M.length - (j + 1))
                  case measure => have := Hnj.out; omega
                  case rel => exact ⟨j + 1, false, rfl, HSt2.out, by go_num, rfl, by rw [HWo.out]; exact bthen HBk.out (below_regrown _ _ _)⟩
          · have e : j = M.length := by omega
            subst e
            go_upto_region 6 with fail
            refine wp_region_quiet_below (by kernel_rfl) (by kernel_rfl) ?_
            repeat (first | go_big_quiet_step (with_reducible exact orderR_g _ _ _ _ _ _ _) | quiet_step (with_reducible exact orderR_g _ _ _ _ _ _ _))
            refine wpQuiet_nil ?_
            intro _ hw'
            obtain ⟨⟨dq, osq⟩, hw''⟩ := hw'
            subst hw''
            go_wp2_with fail
            go_meet
            exact ⟨M.length, cc, rfl, rfl, HPl.out, fun z hz => by simp at hz, bthen HBj.out (below_regrown _ _ _)⟩
      case rest =>
        obtain ⟨j, cc, rfl, rfl, hplc, hnx, hbc⟩ := hcut
        have HPl := Lib.hid hplc
        have HNx := Lib.hid hnx
        have HBc := Lib.hid hbc
        have hjl := hplc.1
        have HTk := Lib.hid (show K.take (i + 1) = K.take i ++ [x] by
          have h1 := (List.getElem?_eq_some_iff.1 HX.out).1
          have h2 := HX.out
          rw [List.getElem?_eq_getElem h1] at h2
          rw [List.take_succ_eq_append_getElem h1, Option.some.inj h2])
        clear hplc hnx hbc
        cases cc with
        | true =>
          have HIn := Lib.hid ((plc_in HO.out HPl.out HNx.out).1 rfl)
          go_wp2_with fail
          go_roundg (K.length - (i + 1))
          case measure => have := Hn.out; omega
          case rel => exact ⟨i + 1, M, rfl, by omega, by go_num, row_below HRow.out HBc.out, HO.out, fun z => by
            rw [HTk.out, List.mem_append, ← HM.out z, List.mem_singleton]
            exact ⟨.inl, fun h => by rcases h with h | h; exact h; rw [h]; exact HIn.out⟩, by omega, bthen HBl.out HBc.out⟩
        | false =>
          obtain ⟨hO2, hm2⟩ := plc_new HO.out HPl.out HNx.out
          have HOk2 := Lib.hid hO2
          have HMk2 := Lib.hid hm2
          clear hO2 hm2
          go_upto_region 10 with fail
          obtain ⟨d0, d1⟩ := HXc.out _ HBc.out
          have hkc := HKl.out.below HBc.out
          have One1 := Lib.hid (kCs_one (M.take j))
          have One2 := Lib.hid (kC_one x)
          have One3 := Lib.hid (kCs_one (M.drop j))
          have k1 : (0 : Int) ≤ (j : Int) := by omega
          have k2 : (j : Int) ≤ (M.length : Int) := by omega
          have k3 : (j : Int) ≤ (cap2 : Int) := by omega
          have S1 := Lib.hid (show ∀ W', Below wc.heap.size wc W' → Src W' base2 j 2 (kCs (M.take j)) from fun W' h => by
            have := ((hkc.below h).take j).src
            rwa [List.length_take, Nat.min_eq_left hjl] at this)
          have HX3 := Lib.hid (show (kCs (M.take j) ++ kC x) ++ kCs (M.drop j) = kCs (M.take j ++ x :: M.drop j) by
            rw [kCs_app]
            simp [kCs])
          have HLn := Lib.hid (show (M.take j ++ x :: M.drop j).length = M.length + 1 by simp; omega)
          have S3 := Lib.hid (fun W' (h : Below wc.heap.size wc W') => (hkc.below h).cut (k := j) (cap := cap2) hjl hcap2)
          have hgw : g < wc.heap.size := Nat.lt_of_lt_of_le HS.out.lt (Nat.le_trans HBl.out.size HBc.out.size)
          have hwc := Nat.le_trans HBl.out.size HBc.out.size
          clear hkc
          by_cases hc : cap2 = j
          · subst hc
            have hLk : M.length - cap2 = 0 := by omega
            have S3 := Lib.hid (show ∀ W', Below wc.heap.size wc W' → Src W' base2 0 2 (kCs (M.drop cap2)) from fun W' h => by
              have := S3.out W' h
              rwa [if_pos rfl, hLk] at this)
            clear hLk
            have BA : Below wc.heap.size wc (wc.alloc (.cells #[] 25)).drew := ((Below.refl _ wc).alloc (Nat.le_refl _) _).drew
            have BB : Below wc.heap.size wc ((wc.alloc (.cells #[] 25)).alloc (.cells #[.int .u32 (x.1), .int .i64 x.2] 25)).drew := (((Below.refl _ wc).alloc (Nat.le_refl _) _).alloc (by simp) _).drew
            have BC : Below wc.heap.size wc ((wc.alloc (.cells #[.int .u32 (x.1), .int .i64 x.2] 25)).alloc (.cells #[] 25)).drew := (((Below.refl _ wc).alloc (Nat.le_refl _) _).alloc (by simp) _).drew
            have RA0 : (wc.alloc (.cells #[] 25)).ownsRow wc.heap.size 25 2 (.slice (some ⟨wc.heap.size, 0, none⟩) 0 0) 0 [] := World.ownsRow_made wc #[] 0 (Nat.le_refl _) (by unfold maxLen; omega) rfl
            have RA : (wc.alloc (.cells #[] 25)).drew.ownsRow wc.heap.size 25 2 (.slice (some ⟨wc.heap.size, 0, none⟩) 0 0) 0 [] := RA0
            have RB : ((wc.alloc (.cells #[] 25)).alloc (.cells #[.int .u32 (x.1), .int .i64 x.2] 25)).drew.ownsRow wc.heap.size 25 2 (.slice (some ⟨wc.heap.size, 0, none⟩) 0 0) 0 [] := RA0.alloc _
            have RC : ((wc.alloc (.cells #[.int .u32 (x.1), .int .i64 x.2] 25)).alloc (.cells #[] 25)).drew.ownsRow wc.heap.size 25 2 (.slice (some ⟨wc.heap.size + 1, 0, none⟩) 0 0) 0 [] := by
              have := World.ownsRow_made (base := wc.heap.size) (e := 25) (size := 2) (wc.alloc (.cells #[.int .u32 (x.1), .int .i64 x.2] 25)) #[] 0 (by simp) (by unfold maxLen; omega) rfl
              rw [World.size_alloc] at this
              exact this
            clear RA0
            have HA3 := Lib.hid BA; have HB3 := Lib.hid BB; have HC3 := Lib.hid BC; have GA3 := Lib.hid RA; have GB3 := Lib.hid RB; have GC3 := Lib.hid RC
            clear BA BB BC RA RB RC
            have CB := Lib.hid (show Src ((wc.alloc (.cells #[] 25)).alloc (.cells #[.int .u32 (x.1), .int .i64 x.2] 25)).drew (some ⟨wc.heap.size + 1, 0, none⟩) 1 2 (kC x) by
              have := src_new (wc.alloc (.cells #[] 25)) #[.int .u32 (x.1), .int .i64 x.2] 25 2 rfl
              rw [World.size_alloc] at this
              exact this)
            have CC := Lib.hid (show Src ((wc.alloc (.cells #[.int .u32 (x.1), .int .i64 x.2] 25)).alloc (.cells #[] 25)).drew (some ⟨wc.heap.size, 0, none⟩) 1 2 (kC x) from (src_new wc #[.int .u32 (x.1), .int .i64 x.2] 25 2 rfl).below (((Below.refl _ _).alloc (Nat.le_refl _) _).drew))
            go_region_held3 (fun w' => w'.cell? ⟨g, o + i * 2, none⟩ = some (.int .u32 (x.1)) ∧ w'.cell? ⟨g, o + i * 2 + 1, none⟩ = some (.int .i64 x.2))
              (first | exact ⟨cellL hB d0, cellL hB d1⟩ | go_keep)
              (first
                | (refine step_append_src _ (by rfl) _ _ _ (by rfl) wc.heap.size 25 i0 _ 2 16 Tryd.underlying86 hii hz0 hz1 hz2 rfl (by omega) (.slice (some ⟨wc.heap.size, 0, none⟩) 0 0) 0 [] (by rfl) GA3.out (by simp) base2 cap2 cap2 (kCs (M.take cap2)) (by rfl) (S1.out _ HA3.out) One1.out cap2 (by omega) (kCs (M.take cap2)) (by rfl) (by unfold maxLen; omega) (by omega) HA3.out.size ?_; intro g1 c1 w7 hown1 hgrow1 hg1 hat1; have hB := HA3.out.grown hgrow1 HA3.out.size (fun k e => by simp [Value.ownBlock] at e; omega); have HO1 := Lib.hid hown1; have HG1 := Lib.hid hg1; clear hown1 hgrow1 hat1 hg1)
                | (refine step_append_src _ (by rfl) _ _ _ (by rfl) wc.heap.size 25 i0 _ 2 16 Tryd.underlying86 hii hz0 hz1 hz2 rfl (by omega) (.slice (some ⟨wc.heap.size, 0, none⟩) 0 0) 0 [] (by rfl) GB3.out (by simp) base2 cap2 cap2 (kCs (M.take cap2)) (by rfl) (S1.out _ HB3.out) One1.out cap2 (by omega) (kCs (M.take cap2)) (by rfl) (by unfold maxLen; omega) (by omega) HB3.out.size ?_; intro g1 c1 w7 hown1 hgrow1 hg1 hat1; have hB := HB3.out.grown hgrow1 HB3.out.size (fun k e => by simp [Value.ownBlock] at e; omega); have HO1 := Lib.hid hown1; have HG1 := Lib.hid hg1; have HXC := Lib.hid (CB.out.grown hgrow1 (fun e => by simp [Value.ownBlock] at e)); clear hown1 hgrow1 hat1 hg1)
                | (refine step_append_src _ (by rfl) _ _ _ (by rfl) wc.heap.size 25 i0 _ 2 16 Tryd.underlying86 hii hz0 hz1 hz2 rfl (by omega) (.slice (some ⟨wc.heap.size + 1, 0, none⟩) 0 0) 0 [] (by rfl) GC3.out (by simp) base2 cap2 cap2 (kCs (M.take cap2)) (by rfl) (S1.out _ HC3.out) One1.out cap2 (by omega) (kCs (M.take cap2)) (by rfl) (by unfold maxLen; omega) (by omega) HC3.out.size ?_; intro g1 c1 w7 hown1 hgrow1 hg1 hat1; have hB := HC3.out.grown hgrow1 HC3.out.size (fun k e => by simp [Value.ownBlock] at e; omega); have HO1 := Lib.hid hown1; have HG1 := Lib.hid hg1; have HXC := Lib.hid (CC.out.grown hgrow1 (fun e => by simp [Value.ownBlock] at e)); clear hown1 hgrow1 hat1 hg1)
                | (refine step_append_src (w7.alloc (.cells #[.int .u32 (x.1), .int .i64 x.2] 25)) (by rfl) _ _ _ (by rfl) wc.heap.size 25 i0 _ 2 16 Tryd.underlying86 hii hz0 hz1 hz2 rfl (by omega) (.slice (some ⟨g1, 0, none⟩) cap2 c1) cap2 (kCs (M.take cap2)) (by rfl) (HO1.out.alloc _) (by simp) (some ⟨w7.heap.size, 0, none⟩) 1 1 (kC x) (by rfl) (src_new w7 #[.int .u32 (x.1), .int .i64 x.2] 25 2 rfl) One2.out (cap2 + 1) (by omega) (kCs (M.take cap2) ++ kC x) (by rfl) (by unfold maxLen; omega) (by omega) (bthen hB ((Below.refl _ w7).alloc (Nat.le_refl _) (.cells #[.int .u32 (x.1), .int .i64 x.2] 25))).size ?_; intro g2 c2 w8 hown2 hgrow2 hg2 hat2; have hB2 := (bthen hB ((Below.refl _ w7).alloc (Nat.le_refl _) (.cells #[.int .u32 (x.1), .int .i64 x.2] 25))).grown hgrow2 (bthen hB ((Below.refl _ w7).alloc (Nat.le_refl _) (.cells #[.int .u32 (x.1), .int .i64 x.2] 25))).size (fun k e => by simp [Value.ownBlock] at e; have := HG1.out; omega); have hB := hB2; have HO2 := Lib.hid hown2; have HG2 := Lib.hid hg2; clear hown2 hgrow2 hat2 hg2 hB2)
                | (refine step_append_src w7 (by rfl) _ _ _ (by rfl) wc.heap.size 25 i0 _ 2 16 Tryd.underlying86 hii hz0 hz1 hz2 rfl (by omega) (.slice (some ⟨g1, 0, none⟩) cap2 c1) cap2 (kCs (M.take cap2)) (by rfl) HO1.out (by simp) (some ⟨wc.heap.size + 1, 0, none⟩) 1 1 (kC x) (by rfl) HXC.out One2.out (cap2 + 1) (by omega) (kCs (M.take cap2) ++ kC x) (by rfl) (by unfold maxLen; omega) (by omega) hB.size ?_; intro g2 c2 w8 hown2 hgrow2 hg2 hat2; have hB2 := hB.grown hgrow2 hB.size (fun k e => by simp [Value.ownBlock] at e; have := HG1.out; omega); have hB := hB2; have HO2 := Lib.hid hown2; have HG2 := Lib.hid hg2; clear hown2 hgrow2 hat2 hg2 hB2)
                | (refine step_append_src w7 (by rfl) _ _ _ (by rfl) wc.heap.size 25 i0 _ 2 16 Tryd.underlying86 hii hz0 hz1 hz2 rfl (by omega) (.slice (some ⟨g1, 0, none⟩) cap2 c1) cap2 (kCs (M.take cap2)) (by rfl) HO1.out (by simp) (some ⟨wc.heap.size, 0, none⟩) 1 1 (kC x) (by rfl) HXC.out One2.out (cap2 + 1) (by omega) (kCs (M.take cap2) ++ kC x) (by rfl) (by unfold maxLen; omega) (by omega) hB.size ?_; intro g2 c2 w8 hown2 hgrow2 hg2 hat2; have hB2 := hB.grown hgrow2 hB.size (fun k e => by simp [Value.ownBlock] at e; have := HG1.out; omega); have hB := hB2; have HO2 := Lib.hid hown2; have HG2 := Lib.hid hg2; clear hown2 hgrow2 hat2 hg2 hB2)
                | (refine step_append_src w8 (by rfl) _ _ _ (by rfl) wc.heap.size 25 i0 _ 2 16 Tryd.underlying86 hii hz0 hz1 hz2 rfl (by omega) (.slice (some ⟨g2, 0, none⟩) (cap2 + 1) c2) (cap2 + 1) (kCs (M.take cap2) ++ kC x) (by rfl) HO2.out (by simp) base2 0 0 (kCs (M.drop cap2)) (by rfl) (S3.out _ hB) One3.out (M.length + 1) (by omega) (kCs (M.take cap2 ++ x :: M.drop cap2)) HX3.out (by unfold maxLen; omega) (by omega) hB.size ?_; intro g3 c3 w9 hown3 hgrow3 hg3 hat3; have hB3 := hB.grown hgrow3 hB.size (fun k e => by simp [Value.ownBlock] at e; have := HG2.out; omega); have hB := hB3; have HO3 := Lib.hid hown3; have HG3 := Lib.hid hg3; have d0 := (HXc.out _ (bthen HBc.out hB)).1; have d1 := (HXc.out _ (bthen HBc.out hB)).2; clear hown3 hgrow3 hat3 hg3 hB3))
            all_goals
              clear d0 d1
              have HB3 := Lib.hid hB
              clear hB
              go_wp2_with fail
              go_roundg (K.length - (i + 1))
              case measure => have := Hn.out; omega
              case rel => exact ⟨i + 1, M.take cap2 ++ x :: M.drop cap2, rfl, by omega, by go_num, by rw [HLn.out]; exact row_weaken HO3.out hwc, HOk2.out, fun z => by
                rw [HMk2.out z, HTk.out, List.mem_append, ← HM.out z, List.mem_singleton]
                exact ⟨fun h => h.symm, fun h => h.symm⟩, by rw [HLn.out]; omega, bthen HBl.out (bthen HBc.out HB3.out)⟩

          · have S3 := Lib.hid (show ∀ W', Below wc.heap.size wc W' → Src W' (base2.map (·.add (j * 2))) (M.length - j) 2 (kCs (M.drop j)) from fun W' h => by
              have := S3.out W' h
              rwa [if_neg hc] at this)
            have BA : Below wc.heap.size wc (wc.alloc (.cells #[] 25)).drew := ((Below.refl _ wc).alloc (Nat.le_refl _) _).drew
            have BB : Below wc.heap.size wc ((wc.alloc (.cells #[] 25)).alloc (.cells #[.int .u32 (x.1), .int .i64 x.2] 25)).drew := (((Below.refl _ wc).alloc (Nat.le_refl _) _).alloc (by simp) _).drew
            have BC : Below wc.heap.size wc ((wc.alloc (.cells #[.int .u32 (x.1), .int .i64 x.2] 25)).alloc (.cells #[] 25)).drew := (((Below.refl _ wc).alloc (Nat.le_refl _) _).alloc (by simp) _).drew
            have RA0 : (wc.alloc (.cells #[] 25)).ownsRow wc.heap.size 25 2 (.slice (some ⟨wc.heap.size, 0, none⟩) 0 0) 0 [] := World.ownsRow_made wc #[] 0 (Nat.le_refl _) (by unfold maxLen; omega) rfl
            have RA : (wc.alloc (.cells #[] 25)).drew.ownsRow wc.heap.size 25 2 (.slice (some ⟨wc.heap.size, 0, none⟩) 0 0) 0 [] := RA0
            have RB : ((wc.alloc (.cells #[] 25)).alloc (.cells #[.int .u32 (x.1), .int .i64 x.2] 25)).drew.ownsRow wc.heap.size 25 2 (.slice (some ⟨wc.heap.size, 0, none⟩) 0 0) 0 [] := RA0.alloc _
            have RC : ((wc.alloc (.cells #[.int .u32 (x.1), .int .i64 x.2] 25)).alloc (.cells #[] 25)).drew.ownsRow wc.heap.size 25 2 (.slice (some ⟨wc.heap.size + 1, 0, none⟩) 0 0) 0 [] := by
              have := World.ownsRow_made (base := wc.heap.size) (e := 25) (size := 2) (wc.alloc (.cells #[.int .u32 (x.1), .int .i64 x.2] 25)) #[] 0 (by simp) (by unfold maxLen; omega) rfl
              rw [World.size_alloc] at this
              exact this
            clear RA0
            have HA3 := Lib.hid BA; have HB3 := Lib.hid BB; have HC3 := Lib.hid BC; have GA3 := Lib.hid RA; have GB3 := Lib.hid RB; have GC3 := Lib.hid RC
            clear BA BB BC RA RB RC
            have CB := Lib.hid (show Src ((wc.alloc (.cells #[] 25)).alloc (.cells #[.int .u32 (x.1), .int .i64 x.2] 25)).drew (some ⟨wc.heap.size + 1, 0, none⟩) 1 2 (kC x) by
              have := src_new (wc.alloc (.cells #[] 25)) #[.int .u32 (x.1), .int .i64 x.2] 25 2 rfl
              rw [World.size_alloc] at this
              exact this)
            have CC := Lib.hid (show Src ((wc.alloc (.cells #[.int .u32 (x.1), .int .i64 x.2] 25)).alloc (.cells #[] 25)).drew (some ⟨wc.heap.size, 0, none⟩) 1 2 (kC x) from (src_new wc #[.int .u32 (x.1), .int .i64 x.2] 25 2 rfl).below (((Below.refl _ _).alloc (Nat.le_refl _) _).drew))
            go_region_held3 (fun w' => w'.cell? ⟨g, o + i * 2, none⟩ = some (.int .u32 (x.1)) ∧ w'.cell? ⟨g, o + i * 2 + 1, none⟩ = some (.int .i64 x.2))
              (first | exact ⟨cellL hB d0, cellL hB d1⟩ | go_keep)
              (first
                | (refine step_append_src _ (by rfl) _ _ _ (by rfl) wc.heap.size 25 i0 _ 2 16 Tryd.underlying86 hii hz0 hz1 hz2 rfl (by omega) (.slice (some ⟨wc.heap.size, 0, none⟩) 0 0) 0 [] (by rfl) GA3.out (by simp) base2 j cap2 (kCs (M.take j)) (by rfl) (S1.out _ HA3.out) One1.out j (by omega) (kCs (M.take j)) (by rfl) (by unfold maxLen; omega) (by omega) HA3.out.size ?_; intro g1 c1 w7 hown1 hgrow1 hg1 hat1; have hB := HA3.out.grown hgrow1 HA3.out.size (fun k e => by simp [Value.ownBlock] at e; omega); have HO1 := Lib.hid hown1; have HG1 := Lib.hid hg1; clear hown1 hgrow1 hat1 hg1)
                | (refine step_append_src _ (by rfl) _ _ _ (by rfl) wc.heap.size 25 i0 _ 2 16 Tryd.underlying86 hii hz0 hz1 hz2 rfl (by omega) (.slice (some ⟨wc.heap.size, 0, none⟩) 0 0) 0 [] (by rfl) GB3.out (by simp) base2 j cap2 (kCs (M.take j)) (by rfl) (S1.out _ HB3.out) One1.out j (by omega) (kCs (M.take j)) (by rfl) (by unfold maxLen; omega) (by omega) HB3.out.size ?_; intro g1 c1 w7 hown1 hgrow1 hg1 hat1; have hB := HB3.out.grown hgrow1 HB3.out.size (fun k e => by simp [Value.ownBlock] at e; omega); have HO1 := Lib.hid hown1; have HG1 := Lib.hid hg1; have HXC := Lib.hid (CB.out.grown hgrow1 (fun e => by simp [Value.ownBlock] at e)); clear hown1 hgrow1 hat1 hg1)
                | (refine step_append_src _ (by rfl) _ _ _ (by rfl) wc.heap.size 25 i0 _ 2 16 Tryd.underlying86 hii hz0 hz1 hz2 rfl (by omega) (.slice (some ⟨wc.heap.size + 1, 0, none⟩) 0 0) 0 [] (by rfl) GC3.out (by simp) base2 j cap2 (kCs (M.take j)) (by rfl) (S1.out _ HC3.out) One1.out j (by omega) (kCs (M.take j)) (by rfl) (by unfold maxLen; omega) (by omega) HC3.out.size ?_; intro g1 c1 w7 hown1 hgrow1 hg1 hat1; have hB := HC3.out.grown hgrow1 HC3.out.size (fun k e => by simp [Value.ownBlock] at e; omega); have HO1 := Lib.hid hown1; have HG1 := Lib.hid hg1; have HXC := Lib.hid (CC.out.grown hgrow1 (fun e => by simp [Value.ownBlock] at e)); clear hown1 hgrow1 hat1 hg1)
                | (refine step_append_src (w7.alloc (.cells #[.int .u32 (x.1), .int .i64 x.2] 25)) (by rfl) _ _ _ (by rfl) wc.heap.size 25 i0 _ 2 16 Tryd.underlying86 hii hz0 hz1 hz2 rfl (by omega) (.slice (some ⟨g1, 0, none⟩) j c1) j (kCs (M.take j)) (by rfl) (HO1.out.alloc _) (by simp) (some ⟨w7.heap.size, 0, none⟩) 1 1 (kC x) (by rfl) (src_new w7 #[.int .u32 (x.1), .int .i64 x.2] 25 2 rfl) One2.out (j + 1) (by omega) (kCs (M.take j) ++ kC x) (by rfl) (by unfold maxLen; omega) (by omega) (bthen hB ((Below.refl _ w7).alloc (Nat.le_refl _) (.cells #[.int .u32 (x.1), .int .i64 x.2] 25))).size ?_; intro g2 c2 w8 hown2 hgrow2 hg2 hat2; have hB2 := (bthen hB ((Below.refl _ w7).alloc (Nat.le_refl _) (.cells #[.int .u32 (x.1), .int .i64 x.2] 25))).grown hgrow2 (bthen hB ((Below.refl _ w7).alloc (Nat.le_refl _) (.cells #[.int .u32 (x.1), .int .i64 x.2] 25))).size (fun k e => by simp [Value.ownBlock] at e; have := HG1.out; omega); have hB := hB2; have HO2 := Lib.hid hown2; have HG2 := Lib.hid hg2; clear hown2 hgrow2 hat2 hg2 hB2)
                | (refine step_append_src w7 (by rfl) _ _ _ (by rfl) wc.heap.size 25 i0 _ 2 16 Tryd.underlying86 hii hz0 hz1 hz2 rfl (by omega) (.slice (some ⟨g1, 0, none⟩) j c1) j (kCs (M.take j)) (by rfl) HO1.out (by simp) (some ⟨wc.heap.size + 1, 0, none⟩) 1 1 (kC x) (by rfl) HXC.out One2.out (j + 1) (by omega) (kCs (M.take j) ++ kC x) (by rfl) (by unfold maxLen; omega) (by omega) hB.size ?_; intro g2 c2 w8 hown2 hgrow2 hg2 hat2; have hB2 := hB.grown hgrow2 hB.size (fun k e => by simp [Value.ownBlock] at e; have := HG1.out; omega); have hB := hB2; have HO2 := Lib.hid hown2; have HG2 := Lib.hid hg2; clear hown2 hgrow2 hat2 hg2 hB2)
                | (refine step_append_src w7 (by rfl) _ _ _ (by rfl) wc.heap.size 25 i0 _ 2 16 Tryd.underlying86 hii hz0 hz1 hz2 rfl (by omega) (.slice (some ⟨g1, 0, none⟩) j c1) j (kCs (M.take j)) (by rfl) HO1.out (by simp) (some ⟨wc.heap.size, 0, none⟩) 1 1 (kC x) (by rfl) HXC.out One2.out (j + 1) (by omega) (kCs (M.take j) ++ kC x) (by rfl) (by unfold maxLen; omega) (by omega) hB.size ?_; intro g2 c2 w8 hown2 hgrow2 hg2 hat2; have hB2 := hB.grown hgrow2 hB.size (fun k e => by simp [Value.ownBlock] at e; have := HG1.out; omega); have hB := hB2; have HO2 := Lib.hid hown2; have HG2 := Lib.hid hg2; clear hown2 hgrow2 hat2 hg2 hB2)
                | (refine step_append_src w8 (by rfl) _ _ _ (by rfl) wc.heap.size 25 i0 _ 2 16 Tryd.underlying86 hii hz0 hz1 hz2 rfl (by omega) (.slice (some ⟨g2, 0, none⟩) (j + 1) c2) (j + 1) (kCs (M.take j) ++ kC x) (by rfl) HO2.out (by simp) (base2.map (·.add (j * 2))) (M.length - j) (cap2 - j) (kCs (M.drop j)) (by rfl) (S3.out _ hB) One3.out (M.length + 1) (by omega) (kCs (M.take j ++ x :: M.drop j)) HX3.out (by unfold maxLen; omega) (by omega) hB.size ?_; intro g3 c3 w9 hown3 hgrow3 hg3 hat3; have hB3 := hB.grown hgrow3 hB.size (fun k e => by simp [Value.ownBlock] at e; have := HG2.out; omega); have hB := hB3; have HO3 := Lib.hid hown3; have HG3 := Lib.hid hg3; have d0 := (HXc.out _ (bthen HBc.out hB)).1; have d1 := (HXc.out _ (bthen HBc.out hB)).2; clear hown3 hgrow3 hat3 hg3 hB3))
            all_goals
              clear d0 d1
              have HB3 := Lib.hid hB
              clear hB
              go_wp2_with fail
              go_roundg (K.length - (i + 1))
              case measure => have := Hn.out; omega
              case rel => exact ⟨i + 1, M.take j ++ x :: M.drop j, rfl, by omega, by go_num, by rw [HLn.out]; exact row_weaken HO3.out hwc, HOk2.out, fun z => by
                rw [HMk2.out z, HTk.out, List.mem_append, ← HM.out z, List.mem_singleton]
                exact ⟨fun h => h.symm, fun h => h.symm⟩, by rw [HLn.out]; omega, bthen HBl.out (bthen HBc.out HB3.out)⟩
    · obtain rfl : i = K.length := by omega
      go_wp2_with fail
      go_ret
      have hm2 := HM.out
      rw [List.take_length] at hm2
      exact ⟨_, M, rfl, ⟨base2, g2, cap2, rfl, HKl.out, hcap2⟩, HO.out, hm2, hml, HBl.out⟩
end Go.Proofs.YtmmoccceafcfkaaDoor
