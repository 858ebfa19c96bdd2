/- The walk of PrefixBits. -/
import Derived.Test.YtmmoccceafcfkaaDoorE4
namespace Go.Proofs.YtmmoccceafcfkaaDoor
open Go.RowKit
open Go.Sort (grow)

theorem Has_lit (pa pn a : Int) (w : World) (r : Bool) (h : hasB pa pn a = r) :
    Calls Tryd.prog 20 #[.agg #[.int .u32 pa, .int .i64 pn], .int .u32 a] w fun e w' => e = .returned (.bool r) ∧ Below w.heap.size w w' := by
  subst h
  cases hr : rightB pa pn with
  | false =>
    rw [show hasB pa pn a = false by unfold hasB; rw [hr]; rfl]
    exact Has_f pa pn a w hr
  | true => exact Has_t pa pn a w _ hr (by rw [hasB_of hr]; rfl)
theorem Check_lit (a n r : Int) (w : World) (h : chk a n = r) :
    Calls Tryd.prog 18 #[.agg #[.int .u32 a, .int .i64 n]] w fun e w' => e = .returned (.int .i64 r) ∧ Below w.heap.size w w' := by
  subst h
  cases hr : rightB a n with
  | false => rw [chk_f hr]; exact Check_f a n w hr
  | true => rw [chk_t hr]; exact Check_t a n w hr
theorem Bit_lit (a i r : Int) (w : World) (h0 : 0 ≤ a) (h1 : a < 4294967296) (h : bitI a i = r) :
    Calls Tryd.prog 22 #[.int .u32 a, .int .i64 i] w fun e w' => e = .returned (.int .i64 r) ∧ Below w.heap.size w w' := by
  subst h; exact (Bit_any a i w h0 h1).mono fun _ _ ⟨he, hw⟩ => ⟨he, hw ▸ Below.refl _ _⟩
theorem rBit_lit (a i r : Int) (w : World) (h0 : 0 ≤ a) (h1 : a < 4294967296) (h : bitI a i = r) :
    Calls Tryd.prog 23 #[.int .u32 a, .int .i64 i] w fun e w' => e = .returned (.int .i64 r) ∧ Below w.heap.size w w' := by
  subst h; exact (rBit_any a i w h0 h1).mono fun _ _ ⟨he, hw⟩ => ⟨he, hw ▸ Below.refl _ _⟩
theorem rMask_lit (n : Nat) (w : World) (hn : n ≤ 32) :
    Calls Tryd.prog 26 #[.int .i64 n] w fun e w' => e = .returned (.int .u32 (mk n)) ∧ Below w.heap.size w w' :=
  (rMask_any n w hn).mono fun _ _ ⟨he, hw⟩ => ⟨he, hw ▸ Below.refl _ _⟩

theorem Len_mk (n : Nat) (w : World) (hn : n ≤ 32) :
    Calls Tryd.prog 15 #[.int .u32 (mk n)] w fun e w' => e = .returned (.tuple #[.int .i64 n, .int .i64 0]) ∧ w = w' := by
  have mb := mk_bd n (by omega) (by omega)
  have h := len_of_mk n hn
  have := Len_t (mk n) w mb.1 mb.2 (by rw [h])
  rw [h] at this
  exact this

theorem hasB_own (a n : Int) (h0 : 0 ≤ n) (h1 : n ≤ 32) (a0 : 0 ≤ a) (a1 : a < 4294967296) : hasB (andM a n) n a = true := by
  rw [hasB_of (andM_right a n h0 h1 a0 a1)]; simp

set_option maxRecDepth 100000 in
set_option maxHeartbeats 4000000 in
theorem PrefixBits_fine (pa pn a : Int) (n : Nat) (w : World) (rp : Bool) (p0 : 0 ≤ pa) (p1 : pa < 4294967296) (a0 : 0 ≤ a) (a1 : a < 4294967296) (hw : RelsAt w) (hp : rightB pa pn = rp) (hn : n ≤ 32) :
    Calls Tryd.prog 3 #[.agg #[.int .u32 pa, .int .i64 pn], .int .u32 a, .int .i64 n] w fun e w' => e = .returned (.bool true) ∧ Below w.heap.size w w' := by
  have HR := Lib.hid hw
  have Hp := Lib.hid hp
  obtain ⟨c, hc⟩ : ∃ c, chk pa pn = c := ⟨_, rfl⟩
  have hc2 : c = if rp = true then 0 else 2 := by rw [← hc, ← hp]; rfl
  obtain ⟨b, hb⟩ : ∃ b, bitI a n = b := ⟨_, rfl⟩
  obtain ⟨hv, hh⟩ : ∃ r, hasB pa pn a = r := ⟨_, rfl⟩
  obtain ⟨l1, l2, hl⟩ : ∃ x y, lenP a = (x, y) := ⟨_, _, rfl⟩
  have Hc := Lib.hid hc
  have Hb := Lib.hid hb
  have Hh := Lib.hid hh
  have Hl := Lib.hid hl
  have Hc2 := Lib.hid hc2
  have Hown := Lib.hid (hasB_own a n (by omega) (by omega) a0 a1)
  have Hlm := Lib.hid (len_of_mk n hn)
  have mb := mk_bd n (by omega) (by omega)
  have f1 : decide (0 ≤ (n : Int)) = true := by simp
  have f2 : decide ((n : Int) ≤ 32) = true := by simp; omega
  clear hw hp hc hb hh hl hc2
  go_enter Tryd.func3, Tryd.ntmps3
  go_wp2_with fail
  refine (Of_t a n _ (by omega) (by omega)).mono ?_
  rintro e w1 ⟨rfl, hb1⟩
  have P1 : PBox w1 w.heap.size pa pn := PBox.below (PBox.new w pa pn) hb1
  have B1 : Below w.heap.size w w1 := bthen ((Below.refl _ _).alloc (Nat.le_refl _) _) hb1
  clear hb1
  go_wp2_with fail
  refine (Mask_t n _ (by omega) (by omega)).mono ?_
  rintro e w' ⟨rfl, rfl⟩
  have P3 := PBox.new w1 (andM a n) n
  replace P1 := P1.alloc (Obj.cells #[Value.int IntKind.u32 (andM a n), Value.int IntKind.i64 n] 25)
  replace B1 := B1.alloc B1.size (Obj.cells #[Value.int IntKind.u32 (andM a n), Value.int IntKind.i64 n] 25)
  generalize w1.alloc (Obj.cells #[Value.int IntKind.u32 (andM a n), Value.int IntKind.i64 n] 25) = W3 at *
  go_wp2_with fail
  refine (Len_any a _ a0 a1).mono ?_
  rw [Hl.out]
  rintro e w' ⟨rfl, rfl⟩
  go_wp2_with fail
  refine (rLen_any a _ a1 a0).mono ?_
  rw [Hl.out]
  rintro e w' ⟨rfl, rfl⟩
  go_wp2_with fail
  have d0 := cell_regrown P1.c0
  have d1 := cell_regrown P1.c1
  have HB := Lib.hid B1
  have HP3 := Lib.hid P3
  clear B1 P1 P3
  cases rp
  all_goals
    have hcc := Hc2.out
    simp at hcc
    subst hcc
    refine wp_region_quiet_below (by kernel_rfl) (by kernel_rfl) ?_
    repeat (go_big_quiet_step (first | exact num2_b _ _ _ _ | exact Calls.regrown_of (Check_lit _ _ _ _ Hc.out) | exact Calls.regrown_of (rRight_lit _ _ _ _ p0 p1 Hp.out) | exact Calls.regrown_of (Has_lit _ _ _ _ hv Hh.out) | exact Calls.regrown_of (rHas_lit _ _ _ _ hv p0 p1 a0 a1 Hh.out) | exact Calls.regrown_of (Bit_lit _ _ b _ a0 a1 Hb.out) | exact Calls.regrown_of (rBit_lit _ _ b _ a0 a1 Hb.out)))
    refine wpQuiet_nil ?_
    intro _ hw'
    obtain ⟨⟨dq, osq⟩, hw''⟩ := hw'
    subst hw''
    go_wp2_with fail
    refine (Len_mk n _ hn).mono ?_
    rintro e w' ⟨rfl, rfl⟩
    have B2 := bthen HB.out (below_regrown _ dq osq)
    have P3 := HP3.out.below (below_regrown _ dq osq)
    clear d0 d1
    generalize grow (redrawn W3 dq) osq = W4 at *
    have d4 := cell_regrown P3.c0
    have d5 := cell_regrown P3.c1
    have HB4 := Lib.hid B2
    have HW := Lib.hid (HR.out.below B2)
    clear B2 P3
    go_wp2_with fail
    refine wp_region_quiet_below (by kernel_rfl) (by kernel_rfl) ?_
    repeat (go_big_quiet_step (first | exact num2_b _ _ _ _ | exact Calls.regrown_of (rOf_any _ _ _ a0 a1 hn) | exact Calls.regrown_of (rMask_lit _ _ hn) | exact Calls.regrown_of (Has_lit _ _ _ _ true Hown.out) | exact works2_b _ HW.out _ _))
    refine wpQuiet_nil ?_
    intro _ hw'
    obtain ⟨⟨dr, osr⟩, hw''⟩ := hw'
    subst hw''
    go_wp2_with fail
    go_ret
    exact ⟨rfl, bthen HB4.out (below_regrown _ dr osr)⟩

set_option maxRecDepth 100000 in
set_option maxHeartbeats 4000000 in
theorem PrefixBits_not (pa pn a n : Int) (w : World) (rp : Bool) (p0 : 0 ≤ pa) (p1 : pa < 4294967296) (a0 : 0 ≤ a) (a1 : a < 4294967296) (hw : RelsAt w) (hp : rightB pa pn = rp) (hn : n < 0 ∨ 32 < n) :
    Calls Tryd.prog 3 #[.agg #[.int .u32 pa, .int .i64 pn], .int .u32 a, .int .i64 n] w fun e w' => e = .returned (.bool true) ∧ Below w.heap.size w w' := by
  have HR := Lib.hid hw
  have Hp := Lib.hid hp
  obtain ⟨c, hc⟩ : ∃ c, chk pa pn = c := ⟨_, rfl⟩
  have hc2 : c = if rp = true then 0 else 2 := by rw [← hc, ← hp]; rfl
  obtain ⟨b, hb⟩ : ∃ b, bitI a n = b := ⟨_, rfl⟩
  obtain ⟨hv, hh⟩ : ∃ r, hasB pa pn a = r := ⟨_, rfl⟩
  obtain ⟨l1, l2, hl⟩ : ∃ x y, lenP a = (x, y) := ⟨_, _, rfl⟩
  have Hc := Lib.hid hc
  have Hb := Lib.hid hb
  have Hh := Lib.hid hh
  have Hl := Lib.hid hl
  have Hc2 := Lib.hid hc2
  have Hn := Lib.hid hn
  obtain ⟨fine, hf, f1⟩ : ∃ fine : Bool, decide (0 ≤ n) = fine ∧ (fine = true → decide (n ≤ 32) = false) := ⟨_, rfl, fun h => by simp at h; simp; omega⟩
  clear hw hp hc hb hh hl hc2 hn
  have fc : (decide (0 ≤ n) = false) ∨ (decide (0 ≤ n) = true ∧ decide (n ≤ 32) = false) := by
    cases fine
    · exact .inl hf
    · exact .inr ⟨hf, f1 rfl⟩
  clear hf f1
  rcases fc with f1 | ⟨f1, f2⟩
  all_goals
    go_enter Tryd.func3, Tryd.ntmps3
    go_wp2_with fail
    refine (Of_f a n _ Hn.out).mono ?_
    rintro e w1 ⟨rfl, hb1⟩
    have P1 : PBox w1 w.heap.size pa pn := PBox.below (PBox.new w pa pn) hb1
    have B1 : Below w.heap.size w w1 := bthen ((Below.refl _ _).alloc (Nat.le_refl _) _) hb1
    clear hb1
    go_wp2_with fail
    refine (Mask_f n _ Hn.out).mono ?_
    rintro e w' ⟨rfl, rfl⟩
    have P3 := PBox.new w1 0 0
    replace P1 := P1.alloc (Obj.cells #[Value.int IntKind.u32 0, Value.int IntKind.i64 0] 25)
    replace B1 := B1.alloc B1.size (Obj.cells #[Value.int IntKind.u32 0, Value.int IntKind.i64 0] 25)
    generalize w1.alloc (Obj.cells #[Value.int IntKind.u32 0, Value.int IntKind.i64 0] 25) = W3 at *
    go_wp2_with fail
    refine (Len_any a _ a0 a1).mono ?_
    rw [Hl.out]
    rintro e w' ⟨rfl, rfl⟩
    go_wp2_with fail
    refine (rLen_any a _ a1 a0).mono ?_
    rw [Hl.out]
    rintro e w' ⟨rfl, rfl⟩
    go_wp2_with fail
    have d0 := cell_regrown P1.c0
    have d1 := cell_regrown P1.c1
    have HB := Lib.hid B1
    have HP3 := Lib.hid P3
    clear B1 P1 P3
    cases rp
    all_goals
      have hcc := Hc2.out
      simp at hcc
      subst hcc
      refine wp_region_quiet_below (by kernel_rfl) (by kernel_rfl) ?_
      repeat (go_big_quiet_step (first | exact num2_b _ _ _ _ | exact Calls.regrown_of (Check_lit _ _ _ _ Hc.out) | exact Calls.regrown_of (rRight_lit _ _ _ _ p0 p1 Hp.out) | exact Calls.regrown_of (Has_lit _ _ _ _ hv Hh.out) | exact Calls.regrown_of (rHas_lit _ _ _ _ hv p0 p1 a0 a1 Hh.out) | exact Calls.regrown_of (Bit_lit _ _ b _ a0 a1 Hb.out) | exact Calls.regrown_of (rBit_lit _ _ b _ a0 a1 Hb.out)))
      refine wpQuiet_nil ?_
      intro _ hw'
      obtain ⟨⟨dq, osq⟩, hw''⟩ := hw'
      subst hw''
      have B2 := bthen HB.out (below_regrown _ dq osq)
      have P3 := HP3.out.below (below_regrown _ dq osq)
      clear d0 d1
      generalize grow (redrawn W3 dq) osq = W4 at *
      have e0 := P3.c0
      have e1 := P3.c1
      go_wp2_with (go_at_call 17; refine (num2_any _ _).mono ?_; rintro e w' ⟨rfl, rfl⟩)
      refine (works2 _ (HR.out.below B2)).mono ?_
      rintro e w6 ⟨rfl, hb6⟩
      go_wp2_with fail
      go_ret
      exact ⟨rfl, bthen B2 hb6⟩

theorem PrefixBits_walk (pa pn a n : Int) (w : World) (p0 : 0 ≤ pa) (p1 : pa < 4294967296) (a0 : 0 ≤ a) (a1 : a < 4294967296) (hw : RelsAt w) :
    Calls Tryd.prog 3 #[.agg #[.int .u32 pa, .int .i64 pn], .int .u32 a, .int .i64 n] w fun e w' => e = .returned (.bool true) ∧ Below w.heap.size w w' := by
  by_cases h : n < 0 ∨ 32 < n
  · exact PrefixBits_not pa pn a n w _ p0 p1 a0 a1 hw rfl h
  · obtain ⟨m, rfl⟩ := Int.eq_ofNat_of_zero_le (show 0 ≤ n by omega)
    exact PrefixBits_fine pa pn a m w _ p0 p1 a0 a1 hw rfl (by omega)
end Go.Proofs.YtmmoccceafcfkaaDoor
