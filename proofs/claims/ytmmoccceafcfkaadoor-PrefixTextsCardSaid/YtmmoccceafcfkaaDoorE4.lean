/- The walk of PrefixStands. -/
import Derived.Test.YtmmoccceafcfkaaDoorE3
import Derived.Test.YtmmoccceafcfkaaDoorD6
namespace Go.Proofs.YtmmoccceafcfkaaDoor
open Go.RowKit
open Go.Sort (grow)

theorem rCommon_k (pa pn qa qn : Int) (k : Nat) (w : World) (p0 : 0 ≤ pa) (p1 : pa < 4294967296) (q0 : 0 ≤ qa) (q1 : qa < 4294967296) (lp : 0 ≤ pn) (lp2 : pn ≤ 32) (lq : 0 ≤ qn)
    (k1 : (k : Int) ≤ pn) (k2 : ∀ j : Nat, 0 < j → j ≤ k → holdsB (andM pa j) j qa qn = true) (k3 : (k : Int) = pn ∨ holdsB (andM pa (k + 1 : Nat)) (k + 1 : Nat) qa qn = false) :
    Calls Tryd.prog 32 #[.agg #[.int .u32 pa, .int .i64 pn], .agg #[.int .u32 qa, .int .i64 qn]] w fun e w' => e = .returned (.agg #[.int .u32 (andM pa k), .int .i64 k]) ∧ Below w.heap.size w w' := by
  refine (rCommon_any pa pn qa qn w p0 p1 q0 q1 lp lp2 lq).mono ?_
  rintro e w' ⟨⟨n, hc, h4, rfl⟩, hb⟩
  obtain rfl : k = n := common_eq pa pn qa qn k n p0 p1 q0 q1 lp2 k1 lq k2 k3 hc.hp hc.hq hc.same h4
  exact ⟨rfl, hb⟩

theorem Stands_lit (pa pn qa qn r : Int) (w : World) (hw : RelsAt w) (hp : rightB pa pn = true) (hq : rightB qa qn = true) (h : relOf (holdsB pa pn qa qn) (holdsB qa qn pa pn) = r) :
    Calls Tryd.prog 27 #[.agg #[.int .u32 pa, .int .i64 pn], .agg #[.int .u32 qa, .int .i64 qn]] w fun e w' => e = .returned (.tuple #[.int .i64 r, .int .i64 0]) ∧ Below w.heap.size w w' := by
  subst h; exact Stands_t pa pn qa qn w hw hp hq
theorem rStands_lit (pa pn qa qn r : Int) (w : World) (p0 : 0 ≤ pa) (p1 : pa < 4294967296) (q0 : 0 ≤ qa) (q1 : qa < 4294967296) (hp : rightB pa pn = true) (hq : rightB qa qn = true) (h : standI pa pn qa qn = r) :
    Calls Tryd.prog 31 #[.agg #[.int .u32 pa, .int .i64 pn], .agg #[.int .u32 qa, .int .i64 qn]] w fun e w' => e = .returned (.int .i64 r) ∧ Below w.heap.size w w' := by
  subst h; exact rStands_any pa pn qa qn w p0 p1 q0 q1 hp hq
theorem rRight_lit (a n : Int) (w : World) (r : Bool) (h0 : 0 ≤ a) (h1 : a < 4294967296) (h : rightB a n = r) :
    Calls Tryd.prog 19 #[.agg #[.int .u32 a, .int .i64 n]] w fun e w' => e = .returned (.bool r) ∧ Below w.heap.size w w' := by
  subst h; exact rRight_any a n w h0 h1
theorem Order_lit (pa pn qa qn r : Int) (w : World) (h : ordI pa pn qa qn = r) :
    Calls Tryd.prog 29 #[.agg #[.int .u32 pa, .int .i64 pn], .agg #[.int .u32 qa, .int .i64 qn]] w fun e w' => e = .returned (.int .i64 r) ∧ Below w.heap.size w w' := by
  subst h; exact Order_any pa pn qa qn w
theorem rOrder_lit (pa pn qa qn r : Int) (w : World) (h : ordR pa pn qa qn = r) :
    Calls Tryd.prog 30 #[.agg #[.int .u32 pa, .int .i64 pn], .agg #[.int .u32 qa, .int .i64 qn]] w fun e w' => e = .returned (.int .i64 r) ∧ Below w.heap.size w w' := by
  subst h; exact rOrder_any pa pn qa qn w
theorem works2_b (w : World) (hw : RelsAt w) (d : Nat) (os : Array Obj) : Calls Tryd.prog 24 #[] (grow (redrawn w d) os) fun e w'' => e = .returned (.bool true) ∧ ∃ p : Regrown, w'' = grow (redrawn w p.d) p.os :=
  Calls.regrown_of (works2 _ (hw.below (below_regrown _ _ _)))

set_option maxRecDepth 100000 in
set_option maxHeartbeats 4000000 in
theorem PrefixStands_t (pa pn qa qn : Int) (w : World) (p0 : 0 ≤ pa) (p1 : pa < 4294967296) (q0 : 0 ≤ qa) (q1 : qa < 4294967296) (hw : RelsAt w) (hp : rightB pa pn = true) (hq : rightB qa qn = true) :
    Calls Tryd.prog 4 #[.agg #[.int .u32 pa, .int .i64 pn], .agg #[.int .u32 qa, .int .i64 qn]] w fun e w' => e = .returned (.bool true) ∧ Below w.heap.size w w' := by
  have HR := Lib.hid hw
  have Hp := Lib.hid hp
  have Hq := Lib.hid hq
  have lp := rightB_len hp
  have lq := rightB_len hq
  obtain ⟨r, hr⟩ : ∃ r, relOf (holdsB pa pn qa qn) (holdsB qa qn pa pn) = r := ⟨_, rfl⟩
  have hs := stand_rel pa pn qa qn p0 p1 q0 q1 hp hq
  rw [hr] at hs
  have Hr := Lib.hid hr
  have Hs := Lib.hid hs.symm
  obtain ⟨o, ho⟩ : ∃ o, ordI pa pn qa qn = o := ⟨_, rfl⟩
  have ho2 := ord_eq pa pn qa qn
  rw [ho] at ho2
  have Ho := Lib.hid ho
  have Ho2 := Lib.hid ho2.symm
  clear hw hp hq hr hs ho ho2
  go_enter Tryd.func4, Tryd.ntmps4
  go_wp2_with fail
  refine (Stands_lit pa pn qa qn r _ (HR.out.below (((Below.refl _ _).alloc (Nat.le_refl _) _).alloc (by simp) _)) Hp.out Hq.out Hr.out).mono ?_
  rintro e w1 ⟨rfl, hb1⟩
  have P1 : PBox w1 w.heap.size pa pn := PBox.below (PBox.alloc (PBox.new w pa pn) _) hb1
  have P2 : PBox w1 (w.heap.size + 1) qa qn := PBox.below (by have := PBox.new (w.alloc (Obj.cells #[Value.int IntKind.u32 pa, Value.int IntKind.i64 pn] 25)) qa qn; simpa using this) hb1
  have B1 : Below w.heap.size w w1 := bthen (((Below.refl _ _).alloc (Nat.le_refl _) _).alloc (by simp) _) hb1
  clear hb1
  have a0 := P1.c0
  have a1 := P1.c1
  have a2 := P2.c0
  have a3 := P2.c1
  go_wp2_with fail
  refine (Common_t pa pn qa qn _ p0 p1 q0 q1 Hp.out Hq.out).mono ?_
  rintro e w2 ⟨⟨k, k1, k2, k3, rfl⟩, hb2⟩
  have K2 := Lib.hid k2
  have K3 := Lib.hid k3
  clear k2 k3 a0 a1 a2 a3
  replace B1 := bthen B1 hb2
  replace P1 := P1.below hb2
  replace P2 := P2.below hb2
  clear hb2
  go_wp2_with fail
  have P3 := PBox.new w2 (andM pa k) k
  replace P1 := P1.alloc (Obj.cells #[Value.int IntKind.u32 (andM pa k), Value.int IntKind.i64 k] 25)
  replace P2 := P2.alloc (Obj.cells #[Value.int IntKind.u32 (andM pa k), Value.int IntKind.i64 k] 25)
  replace B1 := B1.alloc B1.size (Obj.cells #[Value.int IntKind.u32 (andM pa k), Value.int IntKind.i64 k] 25)
  generalize w2.alloc (Obj.cells #[Value.int IntKind.u32 (andM pa k), Value.int IntKind.i64 k] 25) = W3 at *
  have d0 := cell_regrown P1.c0
  have d1 := cell_regrown P1.c1
  have d2 := cell_regrown P2.c0
  have d3 := cell_regrown P2.c1
  have HB := Lib.hid B1
  have HP1 := Lib.hid P1
  have HP2 := Lib.hid P2
  have HP3 := Lib.hid P3
  clear B1 P1 P2 P3
  refine wp_region_quiet_below (by kernel_rfl) (by kernel_rfl) ?_
  repeat (go_big_quiet_step (first | exact Calls.regrown_of (Order_lit _ _ _ _ o _ Ho.out) | exact Calls.regrown_of (rOrder_lit _ _ _ _ o _ Ho2.out)))
  refine wpQuiet_nil ?_
  intro _ hw'
  obtain ⟨⟨dq, osq⟩, hw''⟩ := hw'
  subst hw''
  have B2 := bthen HB.out (below_regrown _ dq osq)
  have P1 := HP1.out.below (below_regrown _ dq osq)
  have P2 := HP2.out.below (below_regrown _ dq osq)
  have P3 := HP3.out.below (below_regrown _ dq osq)
  clear d0 d1 d2 d3
  generalize grow (redrawn W3 dq) osq = W4 at *
  clear HB HP1 HP2 HP3
  have a0 := P1.c0
  have a1 := P1.c1
  go_wp2_with fail
  refine (rRight_lit pa pn _ true p0 p1 Hp.out).mono ?_
  rintro e w5 ⟨rfl, hb5⟩
  replace B2 := bthen B2 hb5
  replace P1 := P1.below hb5
  replace P2 := P2.below hb5
  replace P3 := P3.below hb5
  clear hb5 a0 a1
  have a0 := P2.c0
  have a1 := P2.c1
  go_wp2_with fail
  refine (rRight_lit qa qn _ true q0 q1 Hq.out).mono ?_
  rintro e w6 ⟨rfl, hb6⟩
  replace B2 := bthen B2 hb6
  replace P1 := P1.below hb6
  replace P2 := P2.below hb6
  replace P3 := P3.below hb6
  clear hb6 a0 a1
  have d0 := cell_regrown P1.c0
  have d1 := cell_regrown P1.c1
  have d2 := cell_regrown P2.c0
  have d3 := cell_regrown P2.c1
  have d4 := cell_regrown P3.c0
  have d5 := cell_regrown P3.c1
  have HB := Lib.hid B2
  have HW := Lib.hid (HR.out.below B2)
  clear B2 P1 P2 P3
  go_wp2_with fail
  refine wp_region_quiet_below (by kernel_rfl) (by kernel_rfl) ?_
  repeat (go_big_quiet_step (first | exact num2_b _ _ _ _ | exact Calls.regrown_of (rStands_lit _ _ _ _ r _ p0 p1 q0 q1 Hp.out Hq.out Hs.out) | exact Calls.regrown_of (rCommon_k _ _ _ _ k _ p0 p1 q0 q1 lp.1 lp.2 lq.1 k1 K2.out K3.out) | exact works2_b _ HW.out _ _))
  refine wpQuiet_nil ?_
  intro _ hw'
  obtain ⟨⟨dq, osq⟩, hw''⟩ := hw'
  subst hw''
  go_wp2_with fail
  go_ret
  exact ⟨rfl, bthen HB.out (below_regrown _ dq osq)⟩

set_option maxRecDepth 100000 in
set_option maxHeartbeats 4000000 in
theorem PrefixStands_f (pa pn qa qn : Int) (w : World) (rp rq : Bool) (p0 : 0 ≤ pa) (p1 : pa < 4294967296) (q0 : 0 ≤ qa) (q1 : qa < 4294967296) (hw : RelsAt w) (hp : rightB pa pn = rp) (hq : rightB qa qn = rq) (hr : (rp && rq) = false) :
    Calls Tryd.prog 4 #[.agg #[.int .u32 pa, .int .i64 pn], .agg #[.int .u32 qa, .int .i64 qn]] w fun e w' => e = .returned (.bool true) ∧ Below w.heap.size w w' := by
  have HR := Lib.hid hw
  have Hp := Lib.hid hp
  have Hq := Lib.hid hq
  have Hpq := Lib.hid hr
  have Hst := Lib.hid (show (rightB pa pn && rightB qa qn) = false by rw [hp, hq]; exact hr)
  obtain ⟨o, ho⟩ : ∃ o, ordI pa pn qa qn = o := ⟨_, rfl⟩
  have ho2 := ord_eq pa pn qa qn
  rw [ho] at ho2
  have Ho := Lib.hid ho
  have Ho2 := Lib.hid ho2.symm
  clear hw hp hq ho ho2
  go_enter Tryd.func4, Tryd.ntmps4
  go_wp2_with fail
  refine (Stands_f pa pn qa qn _ Hst.out).mono ?_
  rintro e w1 ⟨rfl, hb1⟩
  have P1 : PBox w1 w.heap.size pa pn := PBox.below (PBox.alloc (PBox.new w pa pn) _) hb1
  have P2 : PBox w1 (w.heap.size + 1) qa qn := PBox.below (by have := PBox.new (w.alloc (Obj.cells #[Value.int IntKind.u32 pa, Value.int IntKind.i64 pn] 25)) qa qn; simpa using this) hb1
  have B1 : Below w.heap.size w w1 := bthen (((Below.refl _ _).alloc (Nat.le_refl _) _).alloc (by simp) _) hb1
  clear hb1
  have a0 := P1.c0
  have a1 := P1.c1
  have a2 := P2.c0
  have a3 := P2.c1
  go_wp2_with fail
  refine (Common_f pa pn qa qn _ rp rq Hp.out Hq.out Hpq.out).mono ?_
  rintro e w2 ⟨rfl, hb2⟩
  clear a0 a1 a2 a3
  replace B1 := bthen B1 hb2
  replace P1 := P1.below hb2
  replace P2 := P2.below hb2
  clear hb2
  go_wp2_with fail
  have P3 := PBox.new w2 0 0
  replace P1 := P1.alloc (Obj.cells #[Value.int IntKind.u32 0, Value.int IntKind.i64 0] 25)
  replace P2 := P2.alloc (Obj.cells #[Value.int IntKind.u32 0, Value.int IntKind.i64 0] 25)
  replace B1 := B1.alloc B1.size (Obj.cells #[Value.int IntKind.u32 0, Value.int IntKind.i64 0] 25)
  generalize w2.alloc (Obj.cells #[Value.int IntKind.u32 0, Value.int IntKind.i64 0] 25) = W3 at *
  have d0 := cell_regrown P1.c0
  have d1 := cell_regrown P1.c1
  have d2 := cell_regrown P2.c0
  have d3 := cell_regrown P2.c1
  have HB := Lib.hid B1
  have HP1 := Lib.hid P1
  have HP2 := Lib.hid P2
  have HP3 := Lib.hid P3
  clear B1 P1 P2 P3
  refine wp_region_quiet_below (by kernel_rfl) (by kernel_rfl) ?_
  repeat (go_big_quiet_step (first | exact Calls.regrown_of (Order_lit _ _ _ _ o _ Ho.out) | exact Calls.regrown_of (rOrder_lit _ _ _ _ o _ Ho2.out)))
  refine wpQuiet_nil ?_
  intro _ hw'
  obtain ⟨⟨dq, osq⟩, hw''⟩ := hw'
  subst hw''
  have B2 := bthen HB.out (below_regrown _ dq osq)
  have P1 := HP1.out.below (below_regrown _ dq osq)
  have P2 := HP2.out.below (below_regrown _ dq osq)
  have P3 := HP3.out.below (below_regrown _ dq osq)
  clear d0 d1 d2 d3
  generalize grow (redrawn W3 dq) osq = W4 at *
  clear HB HP1 HP2 HP3
  have a0 := P1.c0
  have a1 := P1.c1
  cases rp with
  | false =>
    go_wp2_with fail
    refine (rRight_lit pa pn _ false p0 p1 Hp.out).mono ?_
    rintro e w5 ⟨rfl, hb5⟩
    replace B2 := bthen B2 hb5
    replace P3 := P3.below hb5
    clear hb5 a0 a1
    have a0 := P3.c0
    have a1 := P3.c1
    go_wp2_with (go_at_call 17; refine (num2_any _ _).mono ?_; rintro e w' ⟨rfl, rfl⟩)
    refine (works2 _ (HR.out.below B2)).mono ?_
    rintro e w6 ⟨rfl, hb6⟩
    go_wp2_with fail
    go_ret
    exact ⟨rfl, bthen B2 hb6⟩
  | true =>
    obtain rfl : rq = false := by simpa using Hpq.out
    go_wp2_with fail
    refine (rRight_lit pa pn _ true p0 p1 Hp.out).mono ?_
    rintro e w5 ⟨rfl, hb5⟩
    replace B2 := bthen B2 hb5
    replace P2 := P2.below hb5
    replace P3 := P3.below hb5
    clear hb5 a0 a1
    have a0 := P2.c0
    have a1 := P2.c1
    go_wp2_with fail
    refine (rRight_lit qa qn _ false q0 q1 Hq.out).mono ?_
    rintro e w5 ⟨rfl, hb5⟩
    replace B2 := bthen B2 hb5
    replace P3 := P3.below hb5
    clear hb5 a0 a1
    have a0 := P3.c0
    have a1 := P3.c1
    go_wp2_with (go_at_call 17; refine (num2_any _ _).mono ?_; rintro e w' ⟨rfl, rfl⟩)
    refine (works2 _ (HR.out.below B2)).mono ?_
    rintro e w6 ⟨rfl, hb6⟩
    go_wp2_with fail
    go_ret
    exact ⟨rfl, bthen B2 hb6⟩

theorem PrefixStands_walk (pa pn qa qn : Int) (w : World) (p0 : 0 ≤ pa) (p1 : pa < 4294967296) (q0 : 0 ≤ qa) (q1 : qa < 4294967296) (hw : RelsAt w) :
    Calls Tryd.prog 4 #[.agg #[.int .u32 pa, .int .i64 pn], .agg #[.int .u32 qa, .int .i64 qn]] w fun e w' => e = .returned (.bool true) ∧ Below w.heap.size w w' := by
  cases h : (rightB pa pn && rightB qa qn) with
  | true =>
    simp only [Bool.and_eq_true] at h
    exact PrefixStands_t pa pn qa qn w p0 p1 q0 q1 hw h.1 h.2
  | false => exact PrefixStands_f pa pn qa qn w _ _ p0 p1 q0 q1 hw rfl rfl h
end Go.Proofs.YtmmoccceafcfkaaDoor
