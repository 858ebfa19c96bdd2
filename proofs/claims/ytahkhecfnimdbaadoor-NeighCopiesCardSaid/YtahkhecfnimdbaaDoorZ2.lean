/- Same of neighbours; the document's Same. -/
import Derived.Test.YtahkhecfnimdbaaDoorZ1
namespace Go.Proofs.YtahkhecfnimdbaaDoor
open Go.RowKit Go.Maps

set_option maxHeartbeats 4000000 in
set_option maxRecDepth 100000 in
theorem Same_any (p1 m1 p2 m2 : Nat) (s1 s2 : St) (w : World) (h1 : NW w p1 m1 s1) (h2 : NW w p2 m2 s2) (hO1 : OrdT s1.T) (hO2 : OrdT s2.T) :
    Calls Tryd.prog 24 #[.pointer (some ⟨p1, 0, none⟩), .pointer (some ⟨p2, 0, none⟩)] w fun e w' => e = .returned (.bool (sameSt s1 s2)) ∧ Below w.heap.size w w' := by
  have H1 := Lib.hid h1
  have H2 := Lib.hid h2
  have k0 := cell_regrown h1.ns.c0
  have k1 := cell_regrown h1.ns.c1
  have k2 := cell_regrown h1.ns.c2
  have k3 := cell_regrown h2.ns.c0
  have k4 := cell_regrown h2.ns.c1
  have k5 := cell_regrown h2.ns.c2
  clear h1 h2
  have HO1 := Lib.hid hO1
  have HO2 := Lib.hid hO2
  have HS := Lib.hid (show sameSt s1 s2 = ((s1.now == s2.now) && ((s1.lost == s2.lost) && decide (s1.T = s2.T))) from rfl)
  clear hO1 hO2
  generalize sameSt s1 s2 = bb at *
  go_enter Tryd.func24, Tryd.ntmps24
  go_upto_region 3 with (first
    | (go_at_call 26; with_reducible refine (none_t _ _ _ _ _ _ H1.out.ns).mono ?_; rintro e w' ⟨rfl, rfl⟩)
    | (go_at_call 26; with_reducible refine (none_t _ _ _ _ _ _ H2.out.ns).mono ?_; rintro e w' ⟨rfl, rfl⟩)
    | fail)
  by_cases hn : s1.now = s2.now
  · have t1 : (s1.now == s2.now) = true := by simp [hn]
    by_cases hl : s1.lost = s2.lost
    · have t2 : (s1.lost == s2.lost) = true := by simp [hl]
      clear hn hl
      refine wp_region_quiet_below (by kernel_rfl) (by kernel_rfl) ?_
      repeat (go_big_quiet_step (exact Calls.regrown_of (Equal_any p1 m1 p2 m2 _ _ _ _ _ _ _ (H1.out.ns.below (below_regrown _ _ _)) (H2.out.ns.below (below_regrown _ _ _)) HO1.out HO2.out)))
      refine wpQuiet_nil ?_
      intro _ hw'
      obtain ⟨⟨dq, osq⟩, hw''⟩ := hw'
      subst hw''
      have HB := Lib.hid (below_regrown w dq osq)
      clear k0 k1 k2 k3 k4 k5
      generalize Sort.grow (redrawn w dq) osq = W8 at *
      rw [t1, t2] at HS
      clear t1 t2
      go_wp2_with fail
      go_ret
      exact ⟨ret_bool (by rw [HS.out]; simp), HB.out⟩
    · have t2 : (s1.lost == s2.lost) = false := by simpa using hl
      clear hn hl
      refine wp_region_quiet_below (by kernel_rfl) (by kernel_rfl) ?_
      repeat (go_big_quiet_step (fail))
      refine wpQuiet_nil ?_
      intro _ hw'
      obtain ⟨⟨dq, osq⟩, hw''⟩ := hw'
      subst hw''
      have HB := Lib.hid (below_regrown w dq osq)
      clear k0 k1 k2 k3 k4 k5
      generalize Sort.grow (redrawn w dq) osq = W8 at *
      rw [t1, t2] at HS
      clear t1 t2
      go_wp2_with fail
      go_ret
      exact ⟨ret_bool (by rw [HS.out]; simp), HB.out⟩
  · have t1 : (s1.now == s2.now) = false := by simpa using hn
    clear hn
    refine wp_region_quiet_below (by kernel_rfl) (by kernel_rfl) ?_
    repeat (go_big_quiet_step (fail))
    refine wpQuiet_nil ?_
    intro _ hw'
    obtain ⟨⟨dq, osq⟩, hw''⟩ := hw'
    subst hw''
    have HB := Lib.hid (below_regrown w dq osq)
    clear k0 k1 k2 k3 k4 k5
    generalize Sort.grow (redrawn w dq) osq = W8 at *
    rw [t1] at HS
    clear t1
    go_wp2_with fail
    go_ret
    exact ⟨ret_bool (by rw [HS.out]; simp), HB.out⟩

/-- between two rounds of the document's Same -/
def sqRel (w : World) (T1 T2 : List Rec) (n : Nat) (v5 : Value) (wr : World) : Prop :=
  ∃ i : Nat, n = T1.length - i ∧ i ≤ T1.length ∧ v5 = .int .i64 i ∧ (∀ j, j < i → T1[j]? = T2[j]?) ∧ Below w.heap.size w wr

set_option maxHeartbeats 4000000 in
set_option maxRecDepth 100000 in
theorem rSame_any (b1 b2 : Option Addr) (cap1 cap2 : Nat) (s1 s2 : St) (w : World) (h1 : RW w b1 s1) (h2 : RW w b2 s2) (hl1 : s1.T.length < 1000) :
    Calls Tryd.prog 25 #[RN b1 s1.T.length cap1 s1.now s1.lost, RN b2 s2.T.length cap2 s2.now s2.lost] w fun e w' => e = .returned (.bool (sameSt s1 s2)) ∧ Below w.heap.size w w' := by
  have B0 : Below w.heap.size w ((w.alloc (rnObj b1 s1.T.length cap1 s1.now s1.lost)).alloc (rnObj b2 s2.T.length cap2 s2.now s2.lost)) := ((Below.refl _ _).alloc (Nat.le_refl _) _).alloc (by simp) _
  obtain ⟨g1, hS1⟩ := h1
  obtain ⟨g2, hS2⟩ := h2
  have HS1 := Lib.hid (hS1.below B0)
  have HS2 := Lib.hid (hS2.below B0)
  have d0 : ((w.alloc (rnObj b1 s1.T.length cap1 s1.now s1.lost)).alloc (rnObj b2 s2.T.length cap2 s2.now s2.lost)).cell? ⟨w.heap.size, 0, none⟩ = some (.slice b1 s1.T.length cap1) := by simp [go_sem]
  have d1 : ((w.alloc (rnObj b1 s1.T.length cap1 s1.now s1.lost)).alloc (rnObj b2 s2.T.length cap2 s2.now s2.lost)).cell? ⟨w.heap.size, 1, none⟩ = some (.int .i64 s1.now) := by simp [go_sem]
  have d2 : ((w.alloc (rnObj b1 s1.T.length cap1 s1.now s1.lost)).alloc (rnObj b2 s2.T.length cap2 s2.now s2.lost)).cell? ⟨w.heap.size, 2, none⟩ = some (.int .i64 s1.lost) := by simp [go_sem]
  have e0 : ((w.alloc (rnObj b1 s1.T.length cap1 s1.now s1.lost)).alloc (rnObj b2 s2.T.length cap2 s2.now s2.lost)).cell? ⟨w.heap.size + 1, 0, none⟩ = some (.slice b2 s2.T.length cap2) := by simp [go_sem]
  have e1 : ((w.alloc (rnObj b1 s1.T.length cap1 s1.now s1.lost)).alloc (rnObj b2 s2.T.length cap2 s2.now s2.lost)).cell? ⟨w.heap.size + 1, 1, none⟩ = some (.int .i64 s2.now) := by simp [go_sem]
  have e2 : ((w.alloc (rnObj b1 s1.T.length cap1 s1.now s1.lost)).alloc (rnObj b2 s2.T.length cap2 s2.now s2.lost)).cell? ⟨w.heap.size + 1, 2, none⟩ = some (.int .i64 s2.lost) := by simp [go_sem]
  have HB0 := Lib.hid B0
  have HSm := Lib.hid (show sameSt s1 s2 = ((s1.now == s2.now) && ((s1.lost == s2.lost) && decide (s1.T = s2.T))) from rfl)
  generalize sameSt s1 s2 = bb at *
  clear hS1 hS2 B0
  go_enter Tryd.func25, Tryd.ntmps25
  go_upto_region 1 with fail
  generalize (w.alloc (rnObj b1 s1.T.length cap1 s1.now s1.lost)).alloc (rnObj b2 s2.T.length cap2 s2.now s2.lost) = W0 at *
  by_cases hq : s1.T.length = s2.T.length ∧ s1.now = s2.now ∧ s1.lost = s2.lost
  · obtain ⟨q0, q1, q2⟩ := hq
    have t0 : ((s1.T.length : Int) != (s2.T.length : Int)) = false := by simp [q0]
    have t1 : (s1.now != s2.now) = false := by simp [q1]
    have t2 : (s1.lost != s2.lost) = false := by simp [q2]
    have HQ := Lib.hid (show bb = decide (s1.T = s2.T) by rw [HSm.out, q1, q2]; simp)
    clear q1 q2 HSm
    go_wp2_with fail
    clear d1 d2 e1 e2 t1 t2
    go_loopg [5] s1.T.length (sqRel W0 s1.T s2.T)
    case atStart => exact ⟨0, rfl, by omega, rfl, fun j hj => by omega, Below.refl _ _⟩
    case round =>
      obtain ⟨i, hn, hil, rfl, hall, hbl⟩ := hrel
      have Hn := Lib.hid hn
      have HAll := Lib.hid hall
      have HBl := Lib.hid hbl
      clear hn hall
      have c0 := cell_below hbl d0
      have c1 := cell_below hbl e0
      by_cases hlt : i < s1.T.length
      · obtain ⟨r, hr⟩ : ∃ r, s1.T[i]? = some r := ⟨_, List.getElem?_eq_getElem hlt⟩
        obtain ⟨x, hx⟩ : ∃ x, s2.T[i]? = some x := ⟨_, List.getElem?_eq_getElem (by omega)⟩
        obtain ⟨eb1, z0, z1, z2, z3, z4⟩ := (HS1.out.below hbl).row i r hr
        obtain ⟨eb2, y0, y1, y2, y3, y4⟩ := (HS2.out.below hbl).row i x hx
        subst eb1 eb2
        have HR := Lib.hid hr
        have HX := Lib.hid hx
        have i1 : (0 : Int) ≤ (i : Int) := by omega
        have i2 : (i : Int) < (s1.T.length : Int) := by omega
        have i3 : (i : Int) < (s2.T.length : Int) := by omega
        clear hr hx hbl d0 e0
        go_upto_region 6 with fail
        have k0 := cell_regrown z0
        have k1 := cell_regrown z1
        have k2 := cell_regrown z2
        have k3 := cell_regrown z3
        have k4 := cell_regrown z4
        have j0 := cell_regrown y0
        have j1 := cell_regrown y1
        have j2 := cell_regrown y2
        have j3 := cell_regrown y3
        have j4 := cell_regrown y4
        have l0 := cell_regrown c0
        have l1 := cell_regrown c1
        clear z0 z1 z2 z3 z4 y0 y1 y2 y3 y4 c0 c1
        obtain ⟨r0, r1, r2, r3, r4⟩ := r
        obtain ⟨w0, w1, w2, w3, w4⟩ := x
        dsimp only at k0 k1 k2 k3 k4 j0 j1 j2 j3 j4
        by_cases e0 : r0 = w0
        · subst e0
          by_cases e1 : r1 = w1
          · subst e1
            by_cases e2 : r2 = w2
            · subst e2
              by_cases e3 : r3 = w3
              · subst e3
                by_cases e4 : r4 = w4
                · subst e4
                  clear i3
                  refine wp_region_quiet_below (by kernel_rfl) (by kernel_rfl) ?_
                  repeat (go_big_quiet_step (fail))
                  refine wpQuiet_nil ?_
                  intro _ hw'
                  obtain ⟨⟨dq, osq⟩, hw''⟩ := hw'
                  subst hw''
                  have HB8 := Lib.hid (bthen HBl.out (below_regrown wr dq osq))
                  clear k0 k1 k2 k3 k4 j0 j1 j2 j3 j4 l0 l1
                  generalize Sort.grow (redrawn wr dq) osq = W8 at *
                  go_wp2_with fail
                  go_roundg (s1.T.length - (i + 1))
                  case measure => have := Hn.out; omega
                  case rel => exact ⟨i + 1, rfl, by omega, by go_num, fun j hj => (by
                    by_cases e : j = i
                    · subst e; rw [HR.out, HX.out]
                    · exact HAll.out j (by omega)), HB8.out⟩
                · have HNE := Lib.hid e4
                  have t8 : (r4 == w4) = false := by simpa using e4
                  have t9 : decide (r4 = w4) = false := by simpa using e4
                  have HE := Lib.hid (show decide (s1.T = s2.T) = false from decide_eq_false (fun e => by have h1 := HR.out; rw [e, HX.out] at h1; cases h1; exact HNE.out rfl))
                  refine wp_region_quiet_below (by kernel_rfl) (by kernel_rfl) ?_
                  repeat (go_big_quiet_step (fail))
                  refine wpQuiet_nil ?_
                  intro _ hw'
                  obtain ⟨⟨dq, osq⟩, hw''⟩ := hw'
                  subst hw''
                  have HB8 := Lib.hid (bthen HBl.out (below_regrown wr dq osq))
                  clear k0 k1 k2 k3 k4 j0 j1 j2 j3 j4 l0 l1
                  generalize Sort.grow (redrawn wr dq) osq = W8 at *
                  go_wp2_with fail
                  go_ret
                  exact ⟨ret_bool (by rw [HQ.out, HE.out]), bthen HB0.out HB8.out⟩
              · have HNE := Lib.hid e3
                have t8 : (r3 == w3) = false := by simpa using e3
                have t9 : decide (r3 = w3) = false := by simpa using e3
                have HE := Lib.hid (show decide (s1.T = s2.T) = false from decide_eq_false (fun e => by have h1 := HR.out; rw [e, HX.out] at h1; cases h1; exact HNE.out rfl))
                refine wp_region_quiet_below (by kernel_rfl) (by kernel_rfl) ?_
                repeat (go_big_quiet_step (fail))
                refine wpQuiet_nil ?_
                intro _ hw'
                obtain ⟨⟨dq, osq⟩, hw''⟩ := hw'
                subst hw''
                have HB8 := Lib.hid (bthen HBl.out (below_regrown wr dq osq))
                clear k0 k1 k2 k3 k4 j0 j1 j2 j3 j4 l0 l1
                generalize Sort.grow (redrawn wr dq) osq = W8 at *
                go_wp2_with fail
                go_ret
                exact ⟨ret_bool (by rw [HQ.out, HE.out]), bthen HB0.out HB8.out⟩
            · have HNE := Lib.hid e2
              have t8 : (r2 == w2) = false := by simpa using e2
              have t9 : decide (r2 = w2) = false := by simpa using e2
              have HE := Lib.hid (show decide (s1.T = s2.T) = false from decide_eq_false (fun e => by have h1 := HR.out; rw [e, HX.out] at h1; cases h1; exact HNE.out rfl))
              refine wp_region_quiet_below (by kernel_rfl) (by kernel_rfl) ?_
              repeat (go_big_quiet_step (fail))
              refine wpQuiet_nil ?_
              intro _ hw'
              obtain ⟨⟨dq, osq⟩, hw''⟩ := hw'
              subst hw''
              have HB8 := Lib.hid (bthen HBl.out (below_regrown wr dq osq))
              clear k0 k1 k2 k3 k4 j0 j1 j2 j3 j4 l0 l1
              generalize Sort.grow (redrawn wr dq) osq = W8 at *
              go_wp2_with fail
              go_ret
              exact ⟨ret_bool (by rw [HQ.out, HE.out]), bthen HB0.out HB8.out⟩
          · have HNE := Lib.hid e1
            have t8 : (r1 == w1) = false := by simpa using e1
            have t9 : decide (r1 = w1) = false := by simpa using e1
            have HE := Lib.hid (show decide (s1.T = s2.T) = false from decide_eq_false (fun e => by have h1 := HR.out; rw [e, HX.out] at h1; cases h1; exact HNE.out rfl))
            refine wp_region_quiet_below (by kernel_rfl) (by kernel_rfl) ?_
            repeat (go_big_quiet_step (fail))
            refine wpQuiet_nil ?_
            intro _ hw'
            obtain ⟨⟨dq, osq⟩, hw''⟩ := hw'
            subst hw''
            have HB8 := Lib.hid (bthen HBl.out (below_regrown wr dq osq))
            clear k0 k1 k2 k3 k4 j0 j1 j2 j3 j4 l0 l1
            generalize Sort.grow (redrawn wr dq) osq = W8 at *
            go_wp2_with fail
            go_ret
            exact ⟨ret_bool (by rw [HQ.out, HE.out]), bthen HB0.out HB8.out⟩
        · have HNE := Lib.hid e0
          have t8 : (r0 == w0) = false := by simpa using e0
          have t9 : decide (r0 = w0) = false := by simpa using e0
          have HE := Lib.hid (show decide (s1.T = s2.T) = false from decide_eq_false (fun e => by have h1 := HR.out; rw [e, HX.out] at h1; cases h1; exact HNE.out rfl))
          refine wp_region_quiet_below (by kernel_rfl) (by kernel_rfl) ?_
          repeat (go_big_quiet_step (fail))
          refine wpQuiet_nil ?_
          intro _ hw'
          obtain ⟨⟨dq, osq⟩, hw''⟩ := hw'
          subst hw''
          have HB8 := Lib.hid (bthen HBl.out (below_regrown wr dq osq))
          clear k0 k1 k2 k3 k4 j0 j1 j2 j3 j4 l0 l1
          generalize Sort.grow (redrawn wr dq) osq = W8 at *
          go_wp2_with fail
          go_ret
          exact ⟨ret_bool (by rw [HQ.out, HE.out]), bthen HB0.out HB8.out⟩
      · obtain rfl : i = s1.T.length := by omega
        have hT : s1.T = s2.T := List.ext_getElem? (fun j => by
          by_cases hj : j < s1.T.length
          · exact HAll.out j hj
          · rw [List.getElem?_eq_none (by omega), List.getElem?_eq_none (by omega)])
        have HT := Lib.hid hT
        clear hT hbl
        go_wp2_with fail
        go_ret
        exact ⟨ret_bool (by rw [HQ.out, decide_eq_true HT.out]), bthen HB0.out HBl.out⟩
  · have HQ := Lib.hid (show bb = false by
      rw [HSm.out, Bool.eq_false_iff]
      intro e
      simp at e
      exact hq ⟨by rw [e.2.2], e.1, e.2.1⟩)
    clear HSm
    by_cases q0 : s1.T.length = s2.T.length
    · have t0 : ((s1.T.length : Int) != (s2.T.length : Int)) = false := by simp [q0]
      by_cases q1 : s1.now = s2.now
      · have t1 : (s1.now != s2.now) = false := by simp [q1]
        have t2 : (s1.lost != s2.lost) = true := by simp; exact fun e => hq ⟨q0, q1, e⟩
        clear hq q0 q1
        go_wp2_with fail
        go_ret
        exact ⟨ret_bool HQ.out.symm, HB0.out⟩
      · have t1 : (s1.now != s2.now) = true := by simpa using q1
        clear hq q0 q1
        go_wp2_with fail
        go_ret
        exact ⟨ret_bool HQ.out.symm, HB0.out⟩
    · have t0 : ((s1.T.length : Int) != (s2.T.length : Int)) = true := by simp; omega
      clear hq q0
      go_wp2_with fail
      go_ret
      exact ⟨ret_bool HQ.out.symm, HB0.out⟩
end Go.Proofs.YtahkhecfnimdbaaDoor
