/- sorter.order; slices.insertionSortCmpFunc. -/
import Derived.Test.YtmmoccceafcfkaaDoorS1
import Derived.BigQuiet
import Derived.RegionTactic
namespace Go.Proofs.YtmmoccceafcfkaaDoor
open Go.RowKit Go.Shelf Go.Sort

def pV (x : Pf) : Value := .agg #[.int .u32 x.1, .int .i64 x.2]
/-- the sort's order, as a value -/
def fv : Value := .func (.func 77) #[.agg #[]] #[]
set_option maxRecDepth 100000 in
set_option maxHeartbeats 400000 in
theorem order77 (pa pn qa qn : Int) (w : World) :
    Calls Tryd.prog 77 #[.agg #[], .agg #[.int .u32 pa, .int .i64 pn], .agg #[.int .u32 qa, .int .i64 qn]] w fun e w' => e = .returned (.int .i64 (ordI pa pn qa qn)) ∧ Below w.heap.size w w' := by
  have HO := Lib.hid (fun W => Order_any pa pn qa qn W)
  go_enter Tryd.func77, Tryd.ntmps77
  go_wp2_with (go_at_call 29; (with_reducible refine (HO.out _).mono ?_); rintro e w2 ⟨rfl, hb2⟩)
  go_ret
  exact ⟨rfl, Below.trans (((((Below.refl _ _).alloc (Nat.le_refl _) _).alloc (by simp) _).alloc (by simp; omega) _)) (hb2.mono (by simp; omega))⟩
theorem ord_g (pa pn qa qn : Int) (w : World) (d : Nat) (os : Array Obj) :
    Calls Tryd.prog 77 #[.agg #[], .agg #[.int .u32 pa, .int .i64 pn], .agg #[.int .u32 qa, .int .i64 qn]] (grow (redrawn w d) os) fun e w'' => e = .returned (.int .i64 (ordI pa pn qa qn)) ∧ ∃ p : Regrown, w'' = grow (redrawn w p.d) p.os := Calls.regrown_of (order77 pa pn qa qn _)

set_option maxRecDepth 100000 in
set_option maxHeartbeats 8000000 in
theorem ins_any (g cap a b : Nat) (d : Array Pf) (w : World) (hA : SW w g d w) (hab : a ≤ b) (hb : b ≤ d.size) (hn : d.size ≤ 1000) :
    Calls Tryd.prog 121 #[.slice (some ⟨g, 0, none⟩) d.size cap, .int .i64 a, .int .i64 b, fv] w fun e w' => e = .returned (.tuple #[]) ∧ SW w g (insertionSort pltB d a b) w' := by
  have HA := Lib.hid hA
  clear hA
  unfold fv
  go_enter Tryd.func121, Tryd.ntmps121
  go_wp2_with fail
  go_loopg [8] (b - a) (fun m vi wr => ∃ (i : Nat) (dk : Array Pf), vi = .int .i64 i ∧ a < i ∧ i ≤ b + 1 ∧ m = b + 1 - i ∧ dk.size = d.size ∧ Hid (SW w g dk wr) ∧ Hid (insOuter pltB a b i dk = insOuter pltB a b (a + 1) d))
  case atStart => exact ⟨a + 1, d, by go_num, by omega, by omega, by omega, rfl, HA, rfl⟩
  case round =>
    obtain ⟨i, dk, rfl, hai, hib, hm, hsk, HS, HO⟩ := hrel
    by_cases hlt : i < b
    · have hltz : (i : Int) < (b : Int) := by omega
      go_wp2_with fail
      go_loopg [9] i (fun m2 vj wr2 => ∃ (j : Nat) (dj : Array Pf), vj = .int .i64 j ∧ a ≤ j ∧ j ≤ i ∧ m2 = j ∧ dj.size = d.size ∧ Hid (SW w g dj wr2) ∧ Hid (insInner pltB a j dj = insInner pltB a i dk))
      case atStart => exact ⟨i, dk, rfl, by omega, Nat.le_refl _, rfl, hsk, HS, rfl⟩
      case round =>
        obtain ⟨j, dj, rfl, haj, hji, hm2, hsj, HSj, HI⟩ := hrel
        by_cases hja : a < j
        · have hjaz : (a : Int) < (j : Int) := by omega
          obtain ⟨jp, rfl⟩ : ∃ jp, j = jp + 1 := ⟨j - 1, by omega⟩
          have hjaz' : (a : Int) < (jp : Int) + 1 := by omega
          have l1 : jp + 1 < dj.size := by omega
          have l0 : jp < dj.size := by omega
          have ip : (0 : Int) ≤ (jp : Int) + 1 := by omega
          have iq : (jp : Int) + 1 < (d.size : Int) := by omega
          have ir : ((jp : Int) + 1).toNat = jp + 1 := by omega
          have iw : IntKind.i64.wrap ((jp : Int) + 1) = (jp : Int) + 1 := by rw [IntKind.wrap_i64]; omega
          have kp : (0 : Int) ≤ (jp : Int) := by omega
          have kq : (jp : Int) < (d.size : Int) := by omega
          have kr : ((jp : Int)).toNat = jp := by omega
          have kw : IntKind.i64.wrap ((jp : Int)) = (jp : Int) := by rw [IntKind.wrap_i64]; omega
          have x0 := cell_regrown (HSj.out.row.c0 l1)
          have x1 := cell_regrown (HSj.out.row.c1 l1)
          obtain ⟨Qx, hx⟩ : ∃ Q, Q = dj[jp + 1]! := ⟨_, rfl⟩
          rw [← hx] at x0 x1
          have Hx := Lib.hid hx
          clear hx
          obtain ⟨xa, xn⟩ := Qx
          simp only at x0 x1
          have y0 := cell_regrown (HSj.out.row.c0 l0)
          have y1 := cell_regrown (HSj.out.row.c1 l0)
          obtain ⟨Qy, hy⟩ : ∃ Q, Q = dj[jp]! := ⟨_, rfl⟩
          rw [← hy] at y0 y1
          have Hy := Lib.hid hy
          clear hy
          obtain ⟨ya, yn⟩ := Qy
          simp only at y0 y1
          by_cases hlv : ordI xa xn ya yn < 0
          · have hlt2 : decide (ordI xa xn ya yn < 0) = true := decide_eq_true hlv
            go_upto_region 4 with fail
            refine wp_region_quiet_below (by kernel_rfl) (by kernel_rfl) ?_
            repeat (first | go_big_quiet_step (with_reducible exact ord_g _ _ _ _ _ _ _) | quiet_step (with_reducible exact ord_g _ _ _ _ _ _ _))
            refine wpQuiet_nil ?_
            intro _ hw'
            obtain ⟨⟨dq, osq⟩, hw''⟩ := hw'
            subst hw''
            have HT := Lib.hid (HSj.out.reg dq osq)
            clear x0 x1 y0 y1 HSj
            generalize grow (redrawn wr dq) osq = V at *
            have x0 := HT.out.row.c0 l1
            have x1 := HT.out.row.c1 l1
            have xf := HT.out.row.f0 l1
            have xg := HT.out.row.f1 l1
            have y0 := HT.out.row.c0 l0
            have y1 := HT.out.row.c1 l0
            have yf := HT.out.row.f0 l0
            have yg := HT.out.row.f1 l0
            have HU := Lib.hid ((HT.out.swap l1 l0).drew)
            rw [← Hx.out] at x0 x1 HU
            rw [← Hy.out] at y0 y1 HU
            simp only at x0 x1 y0 y1
            go_upto_region 6 with fail
            go_region
            go_wp2_with fail
            go_roundg jp
            case measure => omega
            case rel =>
              refine ⟨jp, swp dj (jp + 1) jp, by first | rfl | go_num, by omega, by omega, rfl, by rw [size_swp]; exact hsj, HU, ?_⟩
              show _ = _
              have := insInner_go pltB a (jp + 1) dj hja (by simp only [Nat.add_sub_cancel]; rw [← Hx.out, ← Hy.out]; exact hlt2)
              simp only [Nat.add_sub_cancel] at this
              rw [← HI.out, this]
          · have hlt2 : decide (ordI xa xn ya yn < 0) = false := decide_eq_false hlv
            go_upto_region 4 with fail
            refine wp_region_quiet_below (by kernel_rfl) (by kernel_rfl) ?_
            repeat (first | go_big_quiet_step (with_reducible exact ord_g _ _ _ _ _ _ _) | quiet_step (with_reducible exact ord_g _ _ _ _ _ _ _))
            refine wpQuiet_nil ?_
            intro _ hw'
            obtain ⟨⟨dq, osq⟩, hw''⟩ := hw'
            subst hw''
            have HT := Lib.hid (HSj.out.reg dq osq)
            clear x0 x1 y0 y1 HSj
            generalize grow (redrawn wr dq) osq = V at *
            go_wp2_with fail
            go_roundg (b - i)
            case measure => omega
            case rel =>
              refine ⟨i + 1, dj, by go_num, by omega, by omega, by omega, hsj, HT, ?_⟩
              show _ = _
              rw [← HO.out, insOuter_go _ _ _ _ _ hlt, ← HI.out, insInner_stop _ _ _ _ (Or.inr (by simp only [Nat.add_sub_cancel]; rw [← Hx.out, ← Hy.out]; exact hlt2))]

        · have hjaz : decide ((a : Int) < (j : Int)) = false := decide_eq_false (by omega)
          have hjaz' : ¬ (a : Int) < (j : Int) := by omega
          go_upto_region 4 with fail
          refine wp_region_quiet_below (by kernel_rfl) (by kernel_rfl) ?_
          repeat (first | go_big_quiet_step (fail) | quiet_step (fail))
          refine wpQuiet_nil ?_
          intro _ hw'
          obtain ⟨⟨dq, osq⟩, hw''⟩ := hw'
          subst hw''
          go_wp2_with fail
          go_roundg (b - i)
          case measure => omega
          case rel =>
            refine ⟨i + 1, dj, by go_num, by omega, by omega, by omega, hsj, HSj.out.reg dq osq, ?_⟩
            show _ = _
            rw [← HO.out, insOuter_go _ _ _ _ _ hlt, ← HI.out, insInner_stop _ _ _ _ (Or.inl (by omega))]
    · have hltz : ¬ (i : Int) < (b : Int) := by omega
      go_wp2_with fail
      go_end0
      refine ⟨rfl, ?_⟩
      have h := HS.out
      unfold insertionSort
      rw [← HO.out, insOuter_stop _ _ _ _ _ hlt]
      exact h
end Go.Proofs.YtmmoccceafcfkaaDoor
