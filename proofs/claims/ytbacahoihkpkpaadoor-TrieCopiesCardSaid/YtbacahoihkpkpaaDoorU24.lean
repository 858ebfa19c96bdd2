/- The reference: Same. -/
import Derived.Test.YtbacahoihkpkpaaDoorU5
namespace Go.Proofs.YtbacahoihkpkpaaDoor
open Go.RowKit Go.Shelf Go.Maps
open Go.Sort (grow)

set_option maxHeartbeats 4000000 in
set_option maxRecDepth 100000 in
theorem rSame_any (b1 b2 : Option Addr) (g1 cap1 g2 cap2 : Nat) (L1 L2 : List (Key × Int)) (w : World) (h1 : RL w b1 g1 0 L1) (h2 : RL w b2 g2 0 L2) (hl1 : L1.length < 1000000)
    (hk1 : ∀ x ∈ L1, x.1.length ≤ 32) :
    Calls Tryd.prog 32 #[.slice b1 L1.length cap1, .slice b2 L2.length cap2] w fun e w' => e = .returned (.bool (decide (L1 = L2))) ∧ Below w.heap.size w w' := by
  have HS1 := Lib.hid h1
  have HS2 := Lib.hid h2
  have HK1 := Lib.hid hk1
  clear h1 h2 hk1
  by_cases hl : L1.length = L2.length
  · have t1 : ((L1.length : Int) != (L2.length : Int)) = false := by simp [hl]
    have HLe := Lib.hid hl
    clear hl
    generalize hdd : decide (L1 = L2) = dd at *
    have HDD := Lib.hid hdd
    clear hdd
    go_enter Tryd.func32, Tryd.ntmps32
    go_wp2_with fail
    clear t1
    go_loopg [5] L1.length (eqRel w L1 L2)
    case atStart => exact ⟨0, rfl, by omega, rfl, fun j hj => by omega, Below.refl _ _⟩
    case round =>
      obtain ⟨i, hn, hil, rfl, hall, hbl⟩ := hrel
      have Hn := Lib.hid hn
      have HAll := Lib.hid hall
      have HBl := Lib.hid hbl
      clear hn hall
      by_cases hlt : i < L1.length
      · obtain ⟨⟨k1, v1⟩, hr⟩ : ∃ r, L1[i]? = some r := ⟨_, List.getElem?_eq_getElem hlt⟩
        obtain ⟨⟨k2, v2⟩, hx⟩ : ∃ x, L2[i]? = some x := ⟨_, List.getElem?_eq_getElem (by have := HLe.out; omega)⟩
        obtain ⟨eb1, z0, z1, z2⟩ := (HS1.out.below hbl).row i _ hr
        obtain ⟨eb2, y0, y1, y2⟩ := (HS2.out.below hbl).row i _ hx
        subst eb1 eb2
        have HR := Lib.hid hr
        have HX := Lib.hid hx
        have hlt2 : i < L2.length := by have := HLe.out; omega
        have i1 : (0 : Int) ≤ (i : Int) := by omega
        have i2 : (i : Int) < (L1.length : Int) := by omega
        have i3 : (i : Int) < (L2.length : Int) := by omega
        clear hr hx hbl
        dsimp only at z0 z1 z2 y0 y1 y2
        simp only [Nat.zero_add] at z0 z1 z2 y0 y1 y2
        have a1 := HK1.out _ (List.mem_of_getElem? HR.out)
        have zg0 := cell_regrown z0
        have zg1 := cell_regrown z1
        have zg2 := cell_regrown z2
        have yg0 := cell_regrown y0
        have yg1 := cell_regrown y1
        have yg2 := cell_regrown y2
        clear z0 z1 z2 y0 y1 y2
        by_cases he : k1 = k2 ∧ v1 = v2
        · obtain ⟨rfl, rfl⟩ := he
          go_upto_region 6 with fail
          refine wp_region_quiet_below (by kernel_rfl) (by kernel_rfl) ?_
          repeat (first | go_big_quiet_step (fail) | quiet_step (fail))
          refine wpQuiet_nil ?_
          intro _ hw'
          obtain ⟨⟨dq, osq⟩, hw''⟩ := hw'
          subst hw''
          go_wp2_with fail
          go_roundg (L1.length - (i + 1))
          case measure => have := Hn.out; omega
          case rel => exact ⟨i + 1, rfl, by omega, by go_num, fun j hj => (by
            by_cases e : j = i
            · subst e; rw [HR.out, HX.out]
            · exact HAll.out j (by omega)), bthen HBl.out (below_regrown _ _ _)⟩
        · have HE := Lib.hid (show decide (L1 = L2) = false from decide_eq_false (fun e => he (by have h1 := HR.out; rw [e, HX.out] at h1; cases h1; exact ⟨rfl, rfl⟩)))
          by_cases f0 : ka k1 = ka k2
          · by_cases f1 : (k1.length : Int) = (k2.length : Int)
            · obtain rfl := ka_inj a1 f0 f1
              have f2 : v1 ≠ v2 := fun e => he ⟨rfl, e⟩
              have f3 : (v1 == v2) = false := by simpa using f2
              clear he
              go_upto_region 6 with fail
              refine wp_region_quiet_below (by kernel_rfl) (by kernel_rfl) ?_
              repeat (first | go_big_quiet_step (fail) | quiet_step (fail))
              refine wpQuiet_nil ?_
              intro _ hw'
              obtain ⟨⟨dq, osq⟩, hw''⟩ := hw'
              subst hw''
              go_wp2_with fail
              go_ret
              exact ⟨ret_bool (by rw [← HDD.out, HE.out]), bthen HBl.out (below_regrown _ _ _)⟩
            · have f3 : ((k1.length : Int) == (k2.length : Int)) = false := by simpa using f1
              rw [f0] at zg0
              clear he
              go_upto_region 6 with fail
              refine wp_region_quiet_below (by kernel_rfl) (by kernel_rfl) ?_
              repeat (first | go_big_quiet_step (fail) | quiet_step (fail))
              refine wpQuiet_nil ?_
              intro _ hw'
              obtain ⟨⟨dq, osq⟩, hw''⟩ := hw'
              subst hw''
              go_wp2_with fail
              go_ret
              exact ⟨ret_bool (by rw [← HDD.out, HE.out]), bthen HBl.out (below_regrown _ _ _)⟩
          · have f3 : (ka k1 == ka k2) = false := by simpa using f0
            clear he
            go_upto_region 6 with fail
            refine wp_region_quiet_below (by kernel_rfl) (by kernel_rfl) ?_
            repeat (first | go_big_quiet_step (fail) | quiet_step (fail))
            refine wpQuiet_nil ?_
            intro _ hw'
            obtain ⟨⟨dq, osq⟩, hw''⟩ := hw'
            subst hw''
            go_wp2_with fail
            go_ret
            exact ⟨ret_bool (by rw [← HDD.out, HE.out]), bthen HBl.out (below_regrown _ _ _)⟩
      · obtain rfl : i = L1.length := by omega
        have HE := Lib.hid (show decide (L1 = L2) = true from decide_eq_true (List.ext_getElem? fun j => by
          by_cases hj : j < L1.length
          · exact HAll.out j hj
          · rw [List.getElem?_eq_none (by omega), List.getElem?_eq_none (by have := HLe.out; omega)]))
        go_wp2_with fail
        go_ret
        exact ⟨ret_bool (by rw [← HDD.out, HE.out]), HBl.out⟩
  · have t1 : ((L1.length : Int) != (L2.length : Int)) = true := by simp; omega
    have HE := Lib.hid (show decide (L1 = L2) = false from decide_eq_false (fun e => hl (by rw [e])))
    clear hl
    go_enter Tryd.func32, Tryd.ntmps32
    go_wp2_with fail
    go_ret
    exact ⟨ret_bool (by rw [HE.out]), Below.refl _ _⟩
end Go.Proofs.YtbacahoihkpkpaaDoor
