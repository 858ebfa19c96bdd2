/- slices.Equal over rows; the reference's Same. (Printed by gen_g4.py.) -/
import Derived.Test.YtkigoihdmojpfaaR2
import Derived.Deep.LoopGhost
import Derived.Lib.QuietBelow
namespace Go.Proofs.Ytkigoihdmojpfaa
open Go.RowKit
open Go.Sort (grow)

instance : DecidableEq TR := fun a b =>
  if h : a.kind = b.kind ∧ a.addr = b.addr ∧ a.len = b.len ∧ a.due = b.due then .isTrue (TR.ext' h.1 h.2.1 h.2.2.1 h.2.2.2)
  else .isFalse (fun e => h (by subst e; exact ⟨rfl, rfl, rfl, rfl⟩))
theorem rowNe {x y : TR} (h : x ≠ y) : (x.kind == y.kind && (x.addr == y.addr && (x.len == y.len && x.due == y.due))) = false := by
  cases hc : (x.kind == y.kind && (x.addr == y.addr && (x.len == y.len && x.due == y.due))) with
  | false => rfl
  | true =>
    simp at hc
    exact absurd (TR.ext' hc.1 hc.2.1 hc.2.2.1 hc.2.2.2) h
def eqRel (w : World) (T1 T2 : List TR) (n : Nat) (v13 : Value) (wr : World) : Prop :=
  ∃ i : Nat, n = T1.length - i ∧ i ≤ T1.length ∧ v13 = .int .i64 i ∧ (∀ j, j < i → T1[j]? = T2[j]?) ∧ Below w.heap.size w wr

set_option maxHeartbeats 4000000 in
set_option maxRecDepth 100000 in
theorem Equal_any (b1 b2 : Option Addr) (g1 o1 cap1 g2 o2 cap2 : Nat) (L1 L2 : List TR) (w : World) (h1 : SL w b1 g1 o1 L1) (h2 : SL w b2 g2 o2 L2) (hl1 : L1.length < 1000000000) :
    Calls Try.prog 41 #[.slice b1 L1.length cap1, .slice b2 L2.length cap2] w fun e w' => e = .returned (.bool (decide (L1 = L2))) ∧ Below w.heap.size w w' := by
  have HS1 := Lib.hid h1
  have HS2 := Lib.hid h2
  clear h1 h2
  by_cases hl : L1.length = L2.length
  · have t1 : ((L1.length : Int) != (L2.length : Int)) = false := by simp [hl]
    have HLe := Lib.hid hl
    clear hl
    generalize hdd : decide (L1 = L2) = dd at *
    have HDD := Lib.hid hdd
    clear hdd
    go_enter Try.func41, Try.ntmps41
    go_wp2_with fail
    clear t1
    go_loopg [13] L1.length (eqRel w L1 L2)
    case atStart => exact ⟨0, rfl, by omega, rfl, fun j hj => by omega, Below.refl _ _⟩
    case round =>
      obtain ⟨i, hn, hil, rfl, hall, hbl⟩ := hrel
      have Hn := Lib.hid hn
      have HAll := Lib.hid hall
      have HBl := Lib.hid hbl
      clear hn hall
      by_cases hlt : i < L1.length
      · obtain ⟨x, hr⟩ : ∃ r, L1[i]? = some r := ⟨_, List.getElem?_eq_getElem hlt⟩
        obtain ⟨y, hx⟩ : ∃ x, L2[i]? = some x := ⟨_, List.getElem?_eq_getElem (by have := HLe.out; omega)⟩
        obtain ⟨eb1, z0, z1, z2, z3⟩ := (HS1.out.below hbl).row i _ hr
        obtain ⟨eb2, y0, y1, y2, y3⟩ := (HS2.out.below hbl).row i _ hx
        subst eb1 eb2
        have HR := Lib.hid hr
        have HX := Lib.hid hx
        have hlt2 : i < L2.length := by have := HLe.out; omega
        have i1 : (0 : Int) ≤ (i : Int) := by omega
        have i2 : (i : Int) < (L1.length : Int) := by omega
        have i3 : (i : Int) < (L2.length : Int) := by omega
        by_cases he : x = y
        · subst he
          have z0' := cell_regrown z0
          have z1' := cell_regrown z1
          have z2' := cell_regrown z2
          have z3' := cell_regrown z3
          have y0' := cell_regrown y0
          have y1' := cell_regrown y1
          have y2' := cell_regrown y2
          have y3' := cell_regrown y3
          clear hr hx hbl z0 z1 z2 z3 y0 y1 y2 y3
          go_upto_region 6 with fail
          refine wp_region_quiet_below (by kernel_rfl) (by kernel_rfl) ?_
          repeat (first | go_big_quiet_step (fail) | quiet_step (fail))
          refine wpQuiet_nil ?_
          intro _ hw'
          obtain ⟨⟨dq, osq⟩, hw''⟩ := hw'
          subst hw''
          go_wp2_with fail
          go_roundg (L1.length - (i + 1))
          case measure => have := Hn.out; omega
          case rel => exact ⟨i + 1, rfl, by omega, by go_num, fun j hj => (by
            by_cases e : j = i
            · subst e; rw [HR.out, HX.out]
            · exact HAll.out j (by omega)), bthen HBl.out (below_regrown _ _ _)⟩
        · have HE := Lib.hid (show decide (L1 = L2) = false from decide_eq_false (fun e => he (by have h1 := HR.out; rw [e, HX.out] at h1; cases h1; rfl)))
          clear hr hx hbl
          by_cases f0 : x.kind = y.kind
          · rw [f0] at z0
            by_cases f1 : x.addr = y.addr
            · rw [f1] at z1
              by_cases f2 : x.len = y.len
              · rw [f2] at z2
                have t1 : (x.due == y.due) = false := by
                  simp only [beq_eq_false_iff_ne, ne_eq]
                  exact fun e => he (TR.ext' f0 f1 f2 e)
                clear he f0 f1 f2
                have z0' := cell_regrown z0
                have z1' := cell_regrown z1
                have z2' := cell_regrown z2
                have z3' := cell_regrown z3
                have y0' := cell_regrown y0
                have y1' := cell_regrown y1
                have y2' := cell_regrown y2
                have y3' := cell_regrown y3
                clear z0 z1 z2 z3 y0 y1 y2 y3
                go_upto_region 6 with fail
                refine wp_region_quiet_below (by kernel_rfl) (by kernel_rfl) ?_
                repeat (first | go_big_quiet_step (fail) | quiet_step (fail))
                refine wpQuiet_nil ?_
                intro _ hw'
                obtain ⟨⟨dq, osq⟩, hw''⟩ := hw'
                subst hw''
                go_wp2_with fail
                go_ret
                exact ⟨ret_bool (by rw [← HDD.out, HE.out]), bthen HBl.out (below_regrown _ _ _)⟩
              · have t1 : (x.len == y.len) = false := by simpa using f2
                clear he f0 f1 f2
                have z0' := cell_regrown z0
                have z1' := cell_regrown z1
                have z2' := cell_regrown z2
                have z3' := cell_regrown z3
                have y0' := cell_regrown y0
                have y1' := cell_regrown y1
                have y2' := cell_regrown y2
                have y3' := cell_regrown y3
                clear z0 z1 z2 z3 y0 y1 y2 y3
                go_upto_region 6 with fail
                refine wp_region_quiet_below (by kernel_rfl) (by kernel_rfl) ?_
                repeat (first | go_big_quiet_step (fail) | quiet_step (fail))
                refine wpQuiet_nil ?_
                intro _ hw'
                obtain ⟨⟨dq, osq⟩, hw''⟩ := hw'
                subst hw''
                go_wp2_with fail
                go_ret
                exact ⟨ret_bool (by rw [← HDD.out, HE.out]), bthen HBl.out (below_regrown _ _ _)⟩
            · have t1 : (x.addr == y.addr) = false := by simpa using f1
              clear he f0 f1
              have z0' := cell_regrown z0
              have z1' := cell_regrown z1
              have z2' := cell_regrown z2
              have z3' := cell_regrown z3
              have y0' := cell_regrown y0
              have y1' := cell_regrown y1
              have y2' := cell_regrown y2
              have y3' := cell_regrown y3
              clear z0 z1 z2 z3 y0 y1 y2 y3
              go_upto_region 6 with fail
              refine wp_region_quiet_below (by kernel_rfl) (by kernel_rfl) ?_
              repeat (first | go_big_quiet_step (fail) | quiet_step (fail))
              refine wpQuiet_nil ?_
              intro _ hw'
              obtain ⟨⟨dq, osq⟩, hw''⟩ := hw'
              subst hw''
              go_wp2_with fail
              go_ret
              exact ⟨ret_bool (by rw [← HDD.out, HE.out]), bthen HBl.out (below_regrown _ _ _)⟩
          · have t1 : (x.kind == y.kind) = false := by simpa using f0
            clear he f0
            have z0' := cell_regrown z0
            have z1' := cell_regrown z1
            have z2' := cell_regrown z2
            have z3' := cell_regrown z3
            have y0' := cell_regrown y0
            have y1' := cell_regrown y1
            have y2' := cell_regrown y2
            have y3' := cell_regrown y3
            clear z0 z1 z2 z3 y0 y1 y2 y3
            go_upto_region 6 with fail
            refine wp_region_quiet_below (by kernel_rfl) (by kernel_rfl) ?_
            repeat (first | go_big_quiet_step (fail) | quiet_step (fail))
            refine wpQuiet_nil ?_
            intro _ hw'
            obtain ⟨⟨dq, osq⟩, hw''⟩ := hw'
            subst hw''
            go_wp2_with fail
            go_ret
            exact ⟨ret_bool (by rw [← HDD.out, HE.out]), bthen HBl.out (below_regrown _ _ _)⟩
      · obtain rfl : i = L1.length := by omega
        have HE := Lib.hid (show decide (L1 = L2) = true from decide_eq_true (List.ext_getElem? fun j => by
          by_cases hj : j < L1.length
          · exact HAll.out j hj
          · rw [List.getElem?_eq_none (by omega), List.getElem?_eq_none (by have := HLe.out; omega)]))
        go_wp2_with fail
        go_ret
        exact ⟨ret_bool (by rw [← HDD.out, HE.out]), HBl.out⟩
  · have t1 : ((L1.length : Int) != (L2.length : Int)) = true := by simp; omega
    have HE := Lib.hid (show decide (L1 = L2) = false from decide_eq_false (fun e => hl (by rw [e])))
    clear hl
    go_enter Try.func41, Try.ntmps41
    go_wp2_with fail
    go_ret
    exact ⟨ret_bool (by rw [HE.out]), Below.refl _ _⟩

set_option maxHeartbeats 4000000 in
set_option maxRecDepth 100000 in
theorem rSame_any (b1 b2 : Option Addr) (g1 o1 cap1 g2 o2 cap2 : Nat) (L1 L2 : List TR) (w : World) (h1 : SL w b1 g1 o1 L1) (h2 : SL w b2 g2 o2 L2) (hl1 : L1.length < 1000000000) :
    Calls Try.prog 22 #[.slice b1 L1.length cap1, .slice b2 L2.length cap2] w fun e w' => e = .returned (.bool (decide (L1 = L2))) ∧ Below w.heap.size w w' := by
  have HS1 := Lib.hid h1
  have HS2 := Lib.hid h2
  clear h1 h2
  by_cases hl : L1.length = L2.length
  · have t1 : ((L1.length : Int) != (L2.length : Int)) = false := by simp [hl]
    have HLe := Lib.hid hl
    clear hl
    generalize hdd : decide (L1 = L2) = dd at *
    have HDD := Lib.hid hdd
    clear hdd
    go_enter Try.func22, Try.ntmps22
    go_wp2_with fail
    clear t1
    go_loopg [5] L1.length (eqRel w L1 L2)
    case atStart => exact ⟨0, rfl, by omega, rfl, fun j hj => by omega, Below.refl _ _⟩
    case round =>
      obtain ⟨i, hn, hil, rfl, hall, hbl⟩ := hrel
      have Hn := Lib.hid hn
      have HAll := Lib.hid hall
      have HBl := Lib.hid hbl
      clear hn hall
      by_cases hlt : i < L1.length
      · obtain ⟨x, hr⟩ : ∃ r, L1[i]? = some r := ⟨_, List.getElem?_eq_getElem hlt⟩
        obtain ⟨y, hx⟩ : ∃ x, L2[i]? = some x := ⟨_, List.getElem?_eq_getElem (by have := HLe.out; omega)⟩
        obtain ⟨eb1, z0, z1, z2, z3⟩ := (HS1.out.below hbl).row i _ hr
        obtain ⟨eb2, y0, y1, y2, y3⟩ := (HS2.out.below hbl).row i _ hx
        subst eb1 eb2
        have HR := Lib.hid hr
        have HX := Lib.hid hx
        have hlt2 : i < L2.length := by have := HLe.out; omega
        have i1 : (0 : Int) ≤ (i : Int) := by omega
        have i2 : (i : Int) < (L1.length : Int) := by omega
        have i3 : (i : Int) < (L2.length : Int) := by omega
        by_cases he : x = y
        · subst he
          have z0' := cell_regrown z0
          have z1' := cell_regrown z1
          have z2' := cell_regrown z2
          have z3' := cell_regrown z3
          have y0' := cell_regrown y0
          have y1' := cell_regrown y1
          have y2' := cell_regrown y2
          have y3' := cell_regrown y3
          clear hr hx hbl z0 z1 z2 z3 y0 y1 y2 y3
          go_upto_region 6 with fail
          refine wp_region_quiet_below (by kernel_rfl) (by kernel_rfl) ?_
          repeat (first | go_big_quiet_step (fail) | quiet_step (fail))
          refine wpQuiet_nil ?_
          intro _ hw'
          obtain ⟨⟨dq, osq⟩, hw''⟩ := hw'
          subst hw''
          go_wp2_with fail
          go_roundg (L1.length - (i + 1))
          case measure => have := Hn.out; omega
          case rel => exact ⟨i + 1, rfl, by omega, by go_num, fun j hj => (by
            by_cases e : j = i
            · subst e; rw [HR.out, HX.out]
            · exact HAll.out j (by omega)), bthen HBl.out (below_regrown _ _ _)⟩
        · have HE := Lib.hid (show decide (L1 = L2) = false from decide_eq_false (fun e => he (by have h1 := HR.out; rw [e, HX.out] at h1; cases h1; rfl)))
          clear hr hx hbl
          by_cases f0 : x.kind = y.kind
          · rw [f0] at z0
            by_cases f1 : x.addr = y.addr
            · rw [f1] at z1
              by_cases f2 : x.len = y.len
              · rw [f2] at z2
                have t1 : (x.due == y.due) = false := by
                  simp only [beq_eq_false_iff_ne, ne_eq]
                  exact fun e => he (TR.ext' f0 f1 f2 e)
                clear he f0 f1 f2
                have z0' := cell_regrown z0
                have z1' := cell_regrown z1
                have z2' := cell_regrown z2
                have z3' := cell_regrown z3
                have y0' := cell_regrown y0
                have y1' := cell_regrown y1
                have y2' := cell_regrown y2
                have y3' := cell_regrown y3
                clear z0 z1 z2 z3 y0 y1 y2 y3
                go_upto_region 6 with fail
                refine wp_region_quiet_below (by kernel_rfl) (by kernel_rfl) ?_
                repeat (first | go_big_quiet_step (fail) | quiet_step (fail))
                refine wpQuiet_nil ?_
                intro _ hw'
                obtain ⟨⟨dq, osq⟩, hw''⟩ := hw'
                subst hw''
                go_wp2_with fail
                go_ret
                exact ⟨ret_bool (by rw [← HDD.out, HE.out]), bthen HBl.out (below_regrown _ _ _)⟩
              · have t1 : (x.len == y.len) = false := by simpa using f2
                clear he f0 f1 f2
                have z0' := cell_regrown z0
                have z1' := cell_regrown z1
                have z2' := cell_regrown z2
                have z3' := cell_regrown z3
                have y0' := cell_regrown y0
                have y1' := cell_regrown y1
                have y2' := cell_regrown y2
                have y3' := cell_regrown y3
                clear z0 z1 z2 z3 y0 y1 y2 y3
                go_upto_region 6 with fail
                refine wp_region_quiet_below (by kernel_rfl) (by kernel_rfl) ?_
                repeat (first | go_big_quiet_step (fail) | quiet_step (fail))
                refine wpQuiet_nil ?_
                intro _ hw'
                obtain ⟨⟨dq, osq⟩, hw''⟩ := hw'
                subst hw''
                go_wp2_with fail
                go_ret
                exact ⟨ret_bool (by rw [← HDD.out, HE.out]), bthen HBl.out (below_regrown _ _ _)⟩
            · have t1 : (x.addr == y.addr) = false := by simpa using f1
              clear he f0 f1
              have z0' := cell_regrown z0
              have z1' := cell_regrown z1
              have z2' := cell_regrown z2
              have z3' := cell_regrown z3
              have y0' := cell_regrown y0
              have y1' := cell_regrown y1
              have y2' := cell_regrown y2
              have y3' := cell_regrown y3
              clear z0 z1 z2 z3 y0 y1 y2 y3
              go_upto_region 6 with fail
              refine wp_region_quiet_below (by kernel_rfl) (by kernel_rfl) ?_
              repeat (first | go_big_quiet_step (fail) | quiet_step (fail))
              refine wpQuiet_nil ?_
              intro _ hw'
              obtain ⟨⟨dq, osq⟩, hw''⟩ := hw'
              subst hw''
              go_wp2_with fail
              go_ret
              exact ⟨ret_bool (by rw [← HDD.out, HE.out]), bthen HBl.out (below_regrown _ _ _)⟩
          · have t1 : (x.kind == y.kind) = false := by simpa using f0
            clear he f0
            have z0' := cell_regrown z0
            have z1' := cell_regrown z1
            have z2' := cell_regrown z2
            have z3' := cell_regrown z3
            have y0' := cell_regrown y0
            have y1' := cell_regrown y1
            have y2' := cell_regrown y2
            have y3' := cell_regrown y3
            clear z0 z1 z2 z3 y0 y1 y2 y3
            go_upto_region 6 with fail
            refine wp_region_quiet_below (by kernel_rfl) (by kernel_rfl) ?_
            repeat (first | go_big_quiet_step (fail) | quiet_step (fail))
            refine wpQuiet_nil ?_
            intro _ hw'
            obtain ⟨⟨dq, osq⟩, hw''⟩ := hw'
            subst hw''
            go_wp2_with fail
            go_ret
            exact ⟨ret_bool (by rw [← HDD.out, HE.out]), bthen HBl.out (below_regrown _ _ _)⟩
      · obtain rfl : i = L1.length := by omega
        have HE := Lib.hid (show decide (L1 = L2) = true from decide_eq_true (List.ext_getElem? fun j => by
          by_cases hj : j < L1.length
          · exact HAll.out j hj
          · rw [List.getElem?_eq_none (by omega), List.getElem?_eq_none (by have := HLe.out; omega)]))
        go_wp2_with fail
        go_ret
        exact ⟨ret_bool (by rw [← HDD.out, HE.out]), HBl.out⟩
  · have t1 : ((L1.length : Int) != (L2.length : Int)) = true := by simp; omega
    have HE := Lib.hid (show decide (L1 = L2) = false from decide_eq_false (fun e => hl (by rw [e])))
    clear hl
    go_enter Try.func22, Try.ntmps22
    go_wp2_with fail
    go_ret
    exact ⟨ret_bool (by rw [HE.out]), Below.refl _ _⟩

end Go.Proofs.Ytkigoihdmojpfaa
