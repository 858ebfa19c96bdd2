/- slices.Compact over prefixes. (Printed by gen_q3.py.) -/
import Derived.Test.YtmmoccceafcfkaaDoorQ0
import Derived.Test.YtmmoccceafcfkaaDoorS7
import Derived.Lib.SlicesCompact
namespace Go.Proofs.YtmmoccceafcfkaaDoor
open Go.RowKit Go.Shelf Go.Sort
open Go.Lib (keeps compactUpTo CompInv keeps_lt_one keeps_pos keeps_neg)
abbrev BelowW := Go.RowKit.Below

theorem kb_setCells (b : Nat) : ∀ (vs : List Value) (o : Nat) (w : World), KB [b] w (w.setCells b o vs)
  | [], _, w => KB.refl _ w
  | v :: vs, o, w => (KB.setCell [b] w b o v (by simp)).trans (kb_setCells b vs (o + 1) _)
def zcells (m : Nat) : List Value := (Builtin.zeroCells (Value.agg #[.int .u32 0, .int .i64 0]).cells m).toList
theorem zcells_len (m : Nat) : (zcells m).length = m * 2 := by simp [zcells, Builtin.zeroCells, Value.cells]
theorem zcells_one (m : Nat) : ∀ v ∈ zcells m, v.oneCell' = true := by
  intro v hv
  simp only [zcells, Builtin.zeroCells, Array.toList_map, List.mem_map] at hv
  obtain ⟨i, _, rfl⟩ := hv
  have hs : (Value.agg #[.int .u32 0, .int .i64 0]).cells = #[.int .u32 0, .int .i64 0] := rfl
  simp only [hs]
  have h2 : i % 2 = 0 ∨ i % 2 = 1 := by omega
  rcases h2 with h | h <;> simp [h] <;> rfl
theorem run_clear2 {w : World} {g : Nat} {d : Array Pf} (h : AR w g d) {k n c : Nat} (hk : k < n) (hn : n ≤ d.size) (ty : TypeId) :
    (Builtin.clear_ #[86] ty #[.slice (some ⟨g, k * 2, none⟩) (n - k) c]).run Tryd.prog w = .ok (.tuple #[]) (w.setCells g (k * 2) (zcells (n - k))) := by
  have hst := run_storeCells_cells (P := Tryd.prog) g (k * 2) (zcells (n - k)) 0 w
    (fun j hj => by
      rw [zcells_len] at hj
      obtain ⟨i, r, hr, rfl⟩ : ∃ i r, r < 2 ∧ j = i * 2 + r := ⟨j / 2, j % 2, by omega, by omega⟩
      have hi : k + i < d.size := by omega
      have hc : r = 0 ∨ r = 1 := by omega
      rcases hc with rfl | rfl
      · rw [show k * 2 + 0 + (i * 2 + 0) = (k + i) * 2 by omega, h.c0 hi]; rfl
      · rw [show k * 2 + 0 + (i * 2 + 1) = (k + i) * 2 + 1 by omega, h.c1 hi]; rfl)
    (fun j hj => by
      rw [zcells_len] at hj
      obtain ⟨i, r, hr, rfl⟩ : ∃ i r, r < 2 ∧ j = i * 2 + r := ⟨j / 2, j % 2, by omega, by omega⟩
      have hi : k + i < d.size := by omega
      have hc : r = 0 ∨ r = 1 := by omega
      rcases hc with rfl | rfl
      · rw [show k * 2 + 0 + (i * 2 + 0) = (k + i) * 2 by omega]; exact h.f0 hi
      · rw [show k * 2 + 0 + (i * 2 + 1) = (k + i) * 2 + 1 by omega]; exact h.f1 hi)
    (zcells_one _)
  simp only [Nat.add_zero] at hst
  obtain ⟨m, hm⟩ : ∃ m, n - k = m + 1 := ⟨n - k - 1, by omega⟩
  rw [hm] at hst ⊢
  unfold zcells at *
  simp [Builtin.clear_, run_underlying Tryd.underlying86, hst]
theorem list_get (L : List Pf) (i : Nat) (x : Pf) (h : L[i]? = some x) : L.toArray[i]! = x := by
  simp [getElem!_def, h]
theorem kl_of_ar {W : World} {g : Nat} {d : Array Pf} {L : List Pf} (h : AR W g d) (hg : g < W.heap.size) (hl : L.length ≤ d.size) (he : ∀ j, j < L.length → L[j]? = some d[j]!) : KL W (some ⟨g, 0, none⟩) g L :=
  ⟨hg, fun i x hx => by
    have hi := (List.getElem?_eq_some_iff.1 hx).1
    have e := he i hi
    rw [hx] at e
    injection e with e
    exact ⟨rfl, by rw [e]; exact h.c0 (by omega), by rw [e]; exact h.c1 (by omega)⟩⟩
/-- what Compact leaves -/
def CompPost (g cap : Nat) (d : Array Pf) (w : World) (e : Ending) (w' : World) : Prop :=
  e = .returned (.slice (some ⟨g, 0, none⟩) (compactUpTo d d.size).length cap) ∧ KL w' (some ⟨g, 0, none⟩) g (compactUpTo d d.size) ∧ KB [g] w w'
theorem comp_same {g cap : Nat} {d : Array Pf} {w w' : World} (h : SW w g d w') (hall : ∀ j, j < d.size → keeps d j = true) : CompPost g cap d w (.returned (.slice (some ⟨g, 0, none⟩) d.size cap)) w' := by
  have e : compactUpTo d d.size = d.toList := by rw [Go.Lib.compactUpTo_all d _ hall, Go.Lib.range_map_get]
  unfold CompPost
  rw [e]
  refine ⟨by rw [Array.length_toList], kl_of_ar h.row h.ltw (by simp) (fun j hj => ?_), h.kb⟩
  have hj' : j < d.size := by simpa using hj
  rw [getElem!_pos d j hj', Array.getElem?_toList]
  simp [hj']
theorem comp_done {g kk cap : Nat} {d dk : Array Pf} {w w' : World} (h : SW w g dk w') (hI : CompInv d d.size kk dk) (e : Ending) (he : e = .returned (.slice (some ⟨g, 0, none⟩) kk cap)) :
    CompPost g cap d w e (w'.setCells g (kk * 2) (zcells (d.size - kk))) := by
  have hk := hI.lt
  unfold CompPost
  rw [he]
  refine ⟨by rw [hI.len], ⟨by have := (kb_setCells g (zcells (d.size - kk)) (kk * 2) w').size; exact Nat.lt_of_lt_of_le h.ltw this, fun i x hx => ?_⟩, h.kb.trans (kb_setCells g _ _ _)⟩
  have hi := (List.getElem?_eq_some_iff.1 hx).1
  rw [hI.len] at hi
  have e2 := hI.low i hi
  rw [hx] at e2
  injection e2 with e2
  have hd : i < dk.size := by rw [hI.size]; omega
  refine ⟨rfl, ?_, ?_⟩
  · rw [World.cell?_setCells_out _ _ _ _ _ (by intro _ _; left; show i * 2 < kk * 2; omega), e2]; exact h.row.c0 hd
  · rw [World.cell?_setCells_out _ _ _ _ _ (by intro _ _; left; show i * 2 + 1 < kk * 2; omega), e2]; exact h.row.c1 hd
set_option maxRecDepth 100000 in
set_option maxHeartbeats 8000000 in
theorem compact_any (g cap : Nat) (d : Array Pf) (w : World) (hA : SW w g d w) (hn : d.size ≤ 1000) (hcap : d.size ≤ cap) :
    Calls Tryd.prog 99 #[.slice (some ⟨g, 0, none⟩) d.size cap] w fun e w' => CompPost g cap d w e w' := by
  have HA := Lib.hid hA
  clear hA
  by_cases h2 : d.size < 2
  · have h2z : (d.size : Int) < 2 := by omega
    go_enter Tryd.func99, Tryd.ntmps99
    go_wp2_with fail
    go_ret
    exact comp_same HA.out (fun j hj => keeps_lt_one d j (by omega))
  · have h2z : ¬ (d.size : Int) < 2 := by omega
    go_enter Tryd.func99, Tryd.ntmps99
    go_wp2_with fail
    go_loopg [3] (d.size - 1) (fun m v3 wr => ∃ k : Nat, v3 = .int .i64 k ∧ 1 ≤ k ∧ k ≤ d.size ∧ m = d.size - k ∧ Hid (SW w g d wr) ∧ Hid (∀ j, j < k → keeps d j = true))
    case atStart => exact ⟨1, rfl, by omega, by omega, rfl, HA, keeps_lt_one d⟩
    case round =>
      obtain ⟨k, rfl, hk1, hk, hm, HS, HK⟩ := hrel
      obtain ⟨kp, rfl⟩ : ∃ kp, k = kp + 1 := ⟨k - 1, by omega⟩
      by_cases hlt : kp + 1 < d.size
      · have hltz : (kp : Int) + 1 < (d.size : Int) := by omega
        have l1 : kp + 1 < d.size := by omega
        have l0 : kp < d.size := by omega
        have up : (0 : Int) ≤ (kp : Int) + 1 := by omega
        have uq : (kp : Int) + 1 < (d.size : Int) := by omega
        have ur : ((kp : Int) + 1).toNat = kp + 1 := by omega
        have uw : IntKind.i64.wrap ((kp : Int) + 1) = (kp : Int) + 1 := by rw [IntKind.wrap_i64]; omega
        have zp : (0 : Int) ≤ (kp : Int) := by omega
        have zq : (kp : Int) < (d.size : Int) := by omega
        have zr : ((kp : Int)).toNat = kp := by omega
        have zw : IntKind.i64.wrap ((kp : Int)) = (kp : Int) := by rw [IntKind.wrap_i64]; omega
        go_upto_region 6 with fail
        go_cut [25] (fun v wx => v = .bool (decide (d[kp + 1]! = d[kp]!)) ∧ Hid (SW w g d wx))
        case first => as_aux_lemma =>
          have x0 := cell_regrown (HS.out.row.c0 l1)
          have x1 := cell_regrown (HS.out.row.c1 l1)
          obtain ⟨Qx, hx⟩ : ∃ Q, Q = d[kp + 1]! := ⟨_, rfl⟩
          rw [← hx] at x0 x1
          have Hx := Lib.hid hx
          clear hx
          obtain ⟨xa, xn⟩ := Qx
          simp only at x0 x1
          have y0 := cell_regrown (HS.out.row.c0 l0)
          have y1 := cell_regrown (HS.out.row.c1 l0)
          obtain ⟨Qy, hy⟩ : ∃ Q, Q = d[kp]! := ⟨_, rfl⟩
          rw [← hy] at y0 y1
          have Hy := Lib.hid hy
          clear hy
          obtain ⟨ya, yn⟩ := Qy
          simp only at y0 y1
          by_cases f0 : xa = ya
          · by_cases f1 : xn = yn
            · subst f0 f1
              have HE := Lib.hid (show decide (d[kp + 1]! = d[kp]!) = true from decide_eq_true (Hx.out.symm.trans Hy.out))
              go_upto_region 6 with fail
              refine wp_region_quiet_below (by kernel_rfl) (by kernel_rfl) ?_
              repeat (first | go_big_quiet_step (fail) | quiet_step (fail))
              refine wpQuiet_nil ?_
              intro _ hw'
              obtain ⟨⟨dq, osq⟩, hw''⟩ := hw'
              subst hw''
              go_wp2_with fail
              go_meet
              exact ⟨by simp [HE.out], HS.out.reg dq osq⟩
            · have t2 : (xn == yn) = false := by simpa using f1
              have t3 : (xn != yn) = true := by simpa using f1
              have HE := Lib.hid (show decide (d[kp + 1]! = d[kp]!) = false from decide_eq_false (fun e => f1 (by have e2 := Hx.out.trans (e.trans Hy.out.symm); exact congrArg Prod.snd e2)))
              subst f0
              go_upto_region 6 with fail
              refine wp_region_quiet_below (by kernel_rfl) (by kernel_rfl) ?_
              repeat (first | go_big_quiet_step (fail) | quiet_step (fail))
              refine wpQuiet_nil ?_
              intro _ hw'
              obtain ⟨⟨dq, osq⟩, hw''⟩ := hw'
              subst hw''
              go_wp2_with fail
              go_meet
              exact ⟨by simp [HE.out], HS.out.reg dq osq⟩
          · have t2 : (xa == ya) = false := by simpa using f0
            have HE := Lib.hid (show decide (d[kp + 1]! = d[kp]!) = false from decide_eq_false (fun e => f0 (by have e2 := Hx.out.trans (e.trans Hy.out.symm); exact congrArg Prod.fst e2)))
            go_upto_region 6 with fail
            refine wp_region_quiet_below (by kernel_rfl) (by kernel_rfl) ?_
            repeat (first | go_big_quiet_step (fail) | quiet_step (fail))
            refine wpQuiet_nil ?_
            intro _ hw'
            obtain ⟨⟨dq, osq⟩, hw''⟩ := hw'
            subst hw''
            go_wp2_with fail
            go_meet
            exact ⟨by simp [HE.out], HS.out.reg dq osq⟩
        case rest =>
        obtain ⟨rfl, HS1⟩ := hcut
        clear HS
        by_cases he : d[kp + 1]! = d[kp]!
        · have hd : decide (d[kp + 1]! = d[kp]!) = true := decide_eq_true he
          rw [hd]
          have HC0 := Lib.hid (CompInv.start HK.out (keeps_neg (by omega) (by simpa using he)))
          have ec : (kp : Int) + 1 ≤ (cap : Int) := by omega
          obtain ⟨n2, hn2⟩ : ∃ n2, n2 = d.size - (kp + 1) := ⟨_, rfl⟩
          have en2 : d.size - (kp + 1) = n2 := hn2.symm
          have bn2 : kp + 1 + n2 = d.size := by omega
          have HN2 := Lib.hid bn2
          have okk1 : ¬ cap = kp + 1 := by omega
          clear he hd HK hn2 bn2
          go_wp2_with fail
          go_loopg [3, 5] (d.size - (kp + 1 + 1)) (fun m v3 v5 wr => ∃ (kk k2 : Nat) (dk : Array Pf), v3 = .int .i64 kk ∧ v5 = .int .i64 k2 ∧ 1 ≤ k2 ∧ kp + 1 + k2 ≤ d.size ∧ m = d.size - (kp + 1 + k2) ∧ Hid (SW w g dk wr) ∧ Hid (CompInv d (kp + 1 + k2) kk dk))
          case atStart => exact ⟨kp + 1, 1, d, by go_num, rfl, by omega, by omega, rfl, HS1, HC0⟩
          case round =>
            obtain ⟨kk, k2, dk, rfl, rfl, h21, hle, hm2, HS2, HI⟩ := hrel
            have hkk := HI.out.lt
            have hds := HI.out.size
            obtain ⟨kq, rfl⟩ : ∃ kq, k2 = kq + 1 := ⟨k2 - 1, by omega⟩
            have bn2 := HN2.out
            by_cases hlt2 : kp + 1 + (kq + 1) < d.size
            · have hltz2 : (kq : Int) + 1 < (n2 : Int) := by omega
              have l1 : kp + 1 + (kq + 1) < dk.size := by omega
              have l0 : kp + 1 + kq < dk.size := by omega
              have e1 := HI.out.high (kp + 1 + (kq + 1)) (by omega)
              have e0 := HI.out.high (kp + 1 + kq) (by omega)
              have E1 := Lib.hid e1
              have E0 := Lib.hid e0
              clear e1 e0
              have up : (0 : Int) ≤ (kq : Int) + 1 := by omega
              have uq : (kq : Int) + 1 < (n2 : Int) := by omega
              have ur : ((kq : Int) + 1).toNat = kq + 1 := by omega
              have uw : IntKind.i64.wrap ((kq : Int) + 1) = (kq : Int) + 1 := by rw [IntKind.wrap_i64]; omega
              have zp : (0 : Int) ≤ (kq : Int) := by omega
              have zq : (kq : Int) < (n2 : Int) := by omega
              have zr : ((kq : Int)).toNat = kq := by omega
              have zw : IntKind.i64.wrap ((kq : Int)) = (kq : Int) := by rw [IntKind.wrap_i64]; omega
              go_upto_region 11 with fail
              go_cut [44] (fun v wx => v = .bool (!decide (dk[kp + 1 + (kq + 1)]! = dk[kp + 1 + kq]!)) ∧ Hid (SW w g dk wx))
              case first => as_aux_lemma =>
                have x0 := cell_regrown (HS2.out.row.c0 l1)
                have x1 := cell_regrown (HS2.out.row.c1 l1)
                obtain ⟨Qx, hx⟩ : ∃ Q, Q = dk[kp + 1 + (kq + 1)]! := ⟨_, rfl⟩
                rw [← hx] at x0 x1
                have Hx := Lib.hid hx
                clear hx
                obtain ⟨xa, xn⟩ := Qx
                simp only at x0 x1
                have y0 := cell_regrown (HS2.out.row.c0 l0)
                have y1 := cell_regrown (HS2.out.row.c1 l0)
                obtain ⟨Qy, hy⟩ : ∃ Q, Q = dk[kp + 1 + kq]! := ⟨_, rfl⟩
                rw [← hy] at y0 y1
                have Hy := Lib.hid hy
                clear hy
                obtain ⟨ya, yn⟩ := Qy
                simp only at y0 y1
                rw [show (kp + 1 + (kq + 1)) * 2 = (kp + 1) * 2 + (kq + 1) * 2 by omega] at x0 x1
                rw [show (kp + 1 + kq) * 2 = (kp + 1) * 2 + kq * 2 by omega] at y0 y1
                by_cases f0 : xa = ya
                · by_cases f1 : xn = yn
                  · subst f0 f1
                    have HE := Lib.hid (show decide (dk[kp + 1 + (kq + 1)]! = dk[kp + 1 + kq]!) = true from decide_eq_true (Hx.out.symm.trans Hy.out))
                    go_upto_region 11 with fail
                    refine wp_region_quiet_below (by kernel_rfl) (by kernel_rfl) ?_
                    repeat (first | go_big_quiet_step (fail) | quiet_step (fail))
                    refine wpQuiet_nil ?_
                    intro _ hw'
                    obtain ⟨⟨dq, osq⟩, hw''⟩ := hw'
                    subst hw''
                    go_wp2_with fail
                    go_meet
                    exact ⟨by simp [HE.out], HS2.out.reg dq osq⟩
                  · have t2 : (xn == yn) = false := by simpa using f1
                    have t3 : (xn != yn) = true := by simpa using f1
                    have HE := Lib.hid (show decide (dk[kp + 1 + (kq + 1)]! = dk[kp + 1 + kq]!) = false from decide_eq_false (fun e => f1 (by have e2 := Hx.out.trans (e.trans Hy.out.symm); exact congrArg Prod.snd e2)))
                    subst f0
                    go_upto_region 11 with fail
                    refine wp_region_quiet_below (by kernel_rfl) (by kernel_rfl) ?_
                    repeat (first | go_big_quiet_step (fail) | quiet_step (fail))
                    refine wpQuiet_nil ?_
                    intro _ hw'
                    obtain ⟨⟨dq, osq⟩, hw''⟩ := hw'
                    subst hw''
                    go_wp2_with fail
                    go_meet
                    exact ⟨by simp [HE.out], HS2.out.reg dq osq⟩
                · have t2 : (xa == ya) = false := by simpa using f0
                  have HE := Lib.hid (show decide (dk[kp + 1 + (kq + 1)]! = dk[kp + 1 + kq]!) = false from decide_eq_false (fun e => f0 (by have e2 := Hx.out.trans (e.trans Hy.out.symm); exact congrArg Prod.fst e2)))
                  go_upto_region 11 with fail
                  refine wp_region_quiet_below (by kernel_rfl) (by kernel_rfl) ?_
                  repeat (first | go_big_quiet_step (fail) | quiet_step (fail))
                  refine wpQuiet_nil ?_
                  intro _ hw'
                  obtain ⟨⟨dq, osq⟩, hw''⟩ := hw'
                  subst hw''
                  go_wp2_with fail
                  go_meet
                  exact ⟨by simp [HE.out], HS2.out.reg dq osq⟩
              case rest =>
              obtain ⟨rfl, HS3⟩ := hcut
              clear HS2
              by_cases he : dk[kp + 1 + (kq + 1)]! = dk[kp + 1 + kq]!
              · have hd : decide (dk[kp + 1 + (kq + 1)]! = dk[kp + 1 + kq]!) = true := decide_eq_true he
                rw [hd]
                have HI2 := Lib.hid (HI.out.skip (keeps_neg (by omega) (by rw [E1.out, E0.out] at he; simpa using he)))
                clear he hd
                go_wp2_with fail
                go_roundg (d.size - (kp + 1 + (kq + 2)))
                case measure => omega
                case rel => exact ⟨kk, kq + 2, dk, rfl, by go_num, by omega, by omega, rfl, HS3, HI2⟩
              · have hd : decide (dk[kp + 1 + (kq + 1)]! = dk[kp + 1 + kq]!) = false := decide_eq_false he
                rw [hd]
                have HI2 := Lib.hid (HI.out.keep hlt2 (keeps_pos (by rw [E1.out, E0.out] at he; simpa using he)))
                rw [← E1.out] at HI2
                clear he hd
                have l2 : kk < dk.size := by omega
                have op : (0 : Int) ≤ (kk : Int) := by omega
                have oq : (kk : Int) < (d.size : Int) := by omega
                have or : ((kk : Int)).toNat = kk := by omega
                have ow : IntKind.i64.wrap ((kk : Int)) = (kk : Int) := by rw [IntKind.wrap_i64]; omega
                have x0 := HS3.out.row.c0 l1
                have x1 := HS3.out.row.c1 l1
                obtain ⟨Qx, hx⟩ : ∃ Q, Q = dk[kp + 1 + (kq + 1)]! := ⟨_, rfl⟩
                rw [← hx] at x0 x1
                have Hx := Lib.hid hx
                clear hx
                obtain ⟨xa, xn⟩ := Qx
                simp only at x0 x1
                have v0 := HS3.out.row.c0 l2
                have v1 := HS3.out.row.c1 l2
                have f0 := HS3.out.row.f0 l2
                have f1 := HS3.out.row.f1 l2
                obtain ⟨old, ho⟩ : ∃ o, o = dk[kk]! := ⟨_, rfl⟩
                rw [← ho] at v0 v1
                clear ho
                obtain ⟨oa, on⟩ := old
                simp only at v0 v1
                have HU := Lib.hid (show SW w g (dk.setIfInBounds kk (xa, xn)) (put2 wc g (kk * 2) (xa, xn)) from ⟨HS3.out.row.put l2 _, HS3.out.kb.trans (put2_kb _ _ _ _ (by simp)), HS3.out.lt⟩)
                rw [← Hx.out] at HI2
                rw [show (kp + 1 + (kq + 1)) * 2 = (kp + 1) * 2 + (kq + 1) * 2 by omega] at x0 x1
                go_wp2_with fail
                go_roundg (d.size - (kp + 1 + (kq + 2)))
                case measure => omega
                case rel => exact ⟨kk + 1, kq + 2, dk.setIfInBounds kk (xa, xn), by go_num, by go_num, by omega, by omega, rfl, HU, HI2⟩
            · have hend : kp + 1 + (kq + 1) = d.size := by omega
              have hltz2 : ¬ (kq : Int) + 1 < (n2 : Int) := by omega
              have HI2 := HI.out
              rw [hend] at HI2
              have HD := Lib.hid (fun e he => comp_done (cap := cap) HS2.out HI2 e he)
              have hcl := fun c ty => run_clear2 (k := kk) (n := d.size) (c := c) HS2.out.row (by omega) (by omega) ty
              have op : (0 : Int) ≤ (kk : Int) := by omega
              have oq : (kk : Int) < (d.size : Int) := by omega
              have or : ((kk : Int)).toNat = kk := by omega
              have ow : IntKind.i64.wrap ((kk : Int)) = (kk : Int) := by rw [IntKind.wrap_i64]; omega
              have okk : (kk : Int) ≤ (cap : Int) := by omega
              have okn : ¬ cap = kk := by omega
              clear HI2 HI hend
              go_wp2_with fail
              go_ret
              exact HD.out _ rfl
        · have hd : decide (d[kp + 1]! = d[kp]!) = false := decide_eq_false he
          rw [hd]
          have HK2 := Lib.hid (show ∀ j, j < kp + 2 → keeps d j = true from fun j hj => by
            by_cases e : j = kp + 1
            · subst e; exact keeps_pos (by simpa using he)
            · exact HK.out j (by omega))
          clear he hd
          go_wp2_with fail
          go_roundg (d.size - (kp + 2))
          case measure => omega
          case rel => exact ⟨kp + 2, by go_num, by omega, by omega, rfl, HS1, HK2⟩
      · have hltz : ¬ (kp : Int) + 1 < (d.size : Int) := by omega
        go_wp2_with fail
        go_ret
        exact comp_same HS.out (fun j hj => HK.out j (by omega))
end Go.Proofs.YtmmoccceafcfkaaDoor
