/- works of the statements of layer 2. -/
import Derived.Test.YtmmoccceafcfkaaDoorD5
namespace Go.Proofs.YtmmoccceafcfkaaDoor
open Go.RowKit
open Go.Sort (grow)

theorem num2_any (n : Int) (w : World) : Calls Tryd.prog 17 #[.int .i64 n] w fun e w' => e = .returned (.int .i64 n) ∧ w = w' := by
  go_enter Tryd.func17, Tryd.ntmps17
  go_wp2
  go_ret
  exact ⟨rfl, rfl⟩
theorem of_any (a n : Int) (w : World) : Calls Tryd.prog 59 #[.int .u32 a, .int .i64 n] w fun e w' => e = .returned (.agg #[.int .u32 a, .int .i64 n]) ∧ Below w.heap.size w w' := by
  go_enter Tryd.func59, Tryd.ntmps59
  go_wp2
  refine bodyPost_ret (v := .agg #[.int .u32 a, .int .i64 n]) (by simp [results, Tryd.results59, go_sem]) rfl ⟨rfl, ?_⟩
  exact (Below.refl _ _).alloc (Nat.le_refl _) _

theorem PParse_lit (s : ByteArray) (w : World) (r : Option (Int × Int)) (hs : s.size ≤ 1000000000000000) (h : pfxS s.data.toList = r) :
    Calls Tryd.prog 47 #[.string s] w fun e w' => e = .returned (resP r) ∧ Below w.heap.size w w' := by
  subst h; exact PParse_any s w hs
theorem Common_w (w : World) : Calls Tryd.prog 28 #[.agg #[.int .u32 167772160, .int .i64 16], .agg #[.int .u32 167837696, .int .i64 16]] w fun e w' => e = .returned (.tuple #[.agg #[.int .u32 167772160, .int .i64 15], .int .i64 0]) ∧ Below w.heap.size w w' := by
  refine (Common_t 167772160 16 167837696 16 w (by decide) (by decide) (by decide) (by decide) (by decide +kernel) (by decide +kernel)).mono ?_
  rintro e w' ⟨⟨k, k1, k2, k3, rfl⟩, hb⟩
  have hk : k = 15 := by
    have h16 : holdsB (andM 167772160 (16 : Nat)) (16 : Nat) 167837696 16 = false := by decide +kernel
    by_cases h : k < 15
    · exfalso
      rcases k3 with k3 | k3
      · omega
      · have h' : ∀ j : Fin 15, holdsB (andM 167772160 ((j.val + 1 : Nat) : Int)) ((j.val + 1 : Nat) : Int) 167837696 16 = true := by decide +kernel
        rw [h' ⟨k, h⟩] at k3
        cases k3
    · by_cases h2 : k = 16
      · subst h2
        rw [k2 16 (by omega) (by omega)] at h16
        cases h16
      · omega
  subst hk
  refine ⟨?_, hb⟩
  rw [show andM 167772160 ((15 : Nat) : Int) = 167772160 by decide +kernel]
  rfl

theorem Of_w (w : World) : Calls Tryd.prog 13 #[.int .u32 167772423, .int .i64 24] w fun e w' => e = .returned (.tuple #[.agg #[.int .u32 167772416, .int .i64 24], .int .i64 0]) ∧ Below w.heap.size w w' :=
  (Of_t 167772423 24 w (by decide) (by decide)).mono fun e w' ⟨h1, h2⟩ => ⟨by rw [h1, show andM 167772423 24 = 167772416 by decide +kernel], h2⟩
theorem Mask_w (w : World) : Calls Tryd.prog 14 #[.int .i64 20] w fun e w' => e = .returned (.tuple #[.int .u32 4294963200, .int .i64 0]) ∧ w = w' :=
  (Mask_t 20 w (by decide) (by decide)).mono fun e w' ⟨h1, h2⟩ => ⟨by rw [h1, show mk 20 = 4294963200 by decide +kernel], h2⟩
theorem Len_w (w : World) : Calls Tryd.prog 15 #[.int .u32 4294963200] w fun e w' => e = .returned (.tuple #[.int .i64 20, .int .i64 0]) ∧ w = w' :=
  (Len_t 4294963200 w (by decide) (by decide) (by decide +kernel)).mono fun e w' ⟨h1, h2⟩ => ⟨by rw [h1, show (32 - blen (4294967295 - 4294963200) : Int) = 20 by decide +kernel], h2⟩
theorem Len_w2 (w : World) : Calls Tryd.prog 15 #[.int .u32 4278255360] w fun e w' => e = .returned (.tuple #[.int .i64 0, .int .i64 120]) ∧ w = w' :=
  Len_f 4278255360 w (by decide) (by decide) (by decide +kernel)
theorem Stands_w (w : World) (hw : RelsAt w) : Calls Tryd.prog 27 #[.agg #[.int .u32 167772160, .int .i64 8], .agg #[.int .u32 167837696, .int .i64 16]] w fun e w' => e = .returned (.tuple #[.int .i64 3, .int .i64 0]) ∧ Below w.heap.size w w' :=
  (Stands_t 167772160 8 167837696 16 w hw (by decide +kernel) (by decide +kernel)).mono fun e w' ⟨h1, h2⟩ => ⟨by rw [h1, show relOf (holdsB 167772160 8 167837696 16) (holdsB 167837696 16 167772160 8) = 3 by decide +kernel], h2⟩
theorem Has_w (w : World) : Calls Tryd.prog 20 #[.agg #[.int .u32 0, .int .i64 0], .int .u32 16909060] w fun e w' => e = .returned (.bool true) ∧ Below w.heap.size w w' :=
  Has_t 0 0 16909060 w true (by decide +kernel) (by decide +kernel)
theorem Check_w (w : World) : Calls Tryd.prog 18 #[.agg #[.int .u32 167772160, .int .i64 33]] w fun e w' => e = .returned (.int .i64 2) ∧ Below w.heap.size w w' :=
  Check_f 167772160 33 w (by decide +kernel)

theorem num2_b (n : Int) (w : World) (d : Nat) (os : Array Obj) : Calls Tryd.prog 17 #[.int .i64 n] (grow (redrawn w d) os) fun e w'' => e = .returned (.int .i64 n) ∧ ∃ p : Regrown, w'' = grow (redrawn w p.d) p.os :=
  Calls.regrown_of ((num2_any n _).mono fun _ _ ⟨h1, h2⟩ => ⟨h1, h2 ▸ Below.refl _ _⟩)
theorem of_b (a n : Int) (w : World) (d : Nat) (os : Array Obj) : Calls Tryd.prog 59 #[.int .u32 a, .int .i64 n] (grow (redrawn w d) os) fun e w'' => e = .returned (.agg #[.int .u32 a, .int .i64 n]) ∧ ∃ p : Regrown, w'' = grow (redrawn w p.d) p.os :=
  Calls.regrown_of (of_any a n _)

set_option maxRecDepth 100000 in
set_option maxHeartbeats 4000000 in
theorem works2 (w : World) (hw : RelsAt w) : Calls Tryd.prog 24 #[] w fun e w' => e = .returned (.bool true) ∧ Below w.heap.size w w' := by
  have HR := Lib.hid hw
  clear hw
  go_enter Tryd.func24, Tryd.ntmps24
  go_wp2_with fail
  refine (Of_w _).mono ?_
  rintro e w1 ⟨rfl, hb1⟩
  go_wp2_with fail
  refine (Mask_w _).mono ?_
  rintro e w2 ⟨rfl, rfl⟩
  go_wp2_with fail
  refine (Len_w _).mono ?_
  rintro e w2 ⟨rfl, rfl⟩
  go_wp2_with fail
  refine (Len_w2 _).mono ?_
  rintro e w2 ⟨rfl, rfl⟩
  have B1 : Below w.heap.size w (w1.alloc (Obj.cells #[Value.int IntKind.u32 167772416, Value.int IntKind.i64 24] 25)) := hb1.alloc hb1.size _
  have p1 := PBox.new w1 167772416 24
  generalize w1.alloc (Obj.cells #[Value.int IntKind.u32 167772416, Value.int IntKind.i64 24] 25) = W1 at *
  go_wp2_with fail
  refine (of_any _ _ _).mono ?_
  rintro e w2 ⟨rfl, hb2⟩
  replace B1 := bthen B1 hb2
  replace p1 := p1.below hb2
  clear hb2
  go_wp2_with fail
  refine (of_any _ _ _).mono ?_
  rintro e w3 ⟨rfl, hb2⟩
  replace B1 := bthen B1 hb2
  replace p1 := p1.below hb2
  clear hb2
  go_wp2_with fail
  refine (Stands_w _ (HR.out.below B1)).mono ?_
  rintro e w4 ⟨rfl, hb2⟩
  replace B1 := bthen B1 hb2
  replace p1 := p1.below hb2
  clear hb2
  go_wp2_with fail
  refine (of_any _ _ _).mono ?_
  rintro e w5 ⟨rfl, hb2⟩
  replace B1 := bthen B1 hb2
  replace p1 := p1.below hb2
  clear hb2
  go_wp2_with fail
  refine (of_any _ _ _).mono ?_
  rintro e w6 ⟨rfl, hb2⟩
  replace B1 := bthen B1 hb2
  replace p1 := p1.below hb2
  clear hb2
  go_wp2_with fail
  refine (Common_w _).mono ?_
  rintro e w7 ⟨rfl, hb2⟩
  replace B1 := bthen B1 hb2
  replace p1 := p1.below hb2
  clear hb2
  have S1 := B1.size
  go_wp2_with fail
  replace p1 := p1.alloc (Obj.cells #[Value.int IntKind.u32 167772160, Value.int IntKind.i64 15] 25)
  have p2 := PBox.new w7 167772160 15
  replace B1 := B1.alloc B1.size (Obj.cells #[Value.int IntKind.u32 167772160, Value.int IntKind.i64 15] 25)
  refine (PParse_lit _ _ (some (167772160, 8)) (by decide) (by decide +kernel)).mono ?_
  rintro e w8 ⟨rfl, hb2⟩
  replace B1 := bthen B1 hb2
  replace p1 := p1.below hb2
  replace p2 := p2.below hb2
  clear hb2
  simp only [resP]
  go_wp2_with fail
  replace p1 := p1.alloc (Obj.cells #[Value.int IntKind.u32 167772160, Value.int IntKind.i64 8] 25)
  replace p2 := p2.alloc (Obj.cells #[Value.int IntKind.u32 167772160, Value.int IntKind.i64 8] 25)
  have p3 := PBox.new w8 167772160 8
  replace B1 := B1.alloc B1.size (Obj.cells #[Value.int IntKind.u32 167772160, Value.int IntKind.i64 8] 25)
  refine (PParse_lit _ _ none (by decide) (by decide +kernel)).mono ?_
  rintro e w9 ⟨rfl, hb2⟩
  replace B1 := bthen B1 hb2
  replace p1 := p1.below hb2
  replace p2 := p2.below hb2
  replace p3 := p3.below hb2
  clear hb2
  simp only [resP]
  go_wp2_with fail
  replace p1 := p1.alloc (Obj.cells #[Value.int IntKind.u32 0, Value.int IntKind.i64 0] 25)
  replace p2 := p2.alloc (Obj.cells #[Value.int IntKind.u32 0, Value.int IntKind.i64 0] 25)
  replace p3 := p3.alloc (Obj.cells #[Value.int IntKind.u32 0, Value.int IntKind.i64 0] 25)
  replace B1 := B1.alloc B1.size (Obj.cells #[Value.int IntKind.u32 0, Value.int IntKind.i64 0] 25)
  refine (PParse_lit _ _ none (by decide) (by decide +kernel)).mono ?_
  rintro e w10 ⟨rfl, hb2⟩
  replace B1 := bthen B1 hb2
  replace p1 := p1.below hb2
  replace p2 := p2.below hb2
  replace p3 := p3.below hb2
  clear hb2
  simp only [resP]
  replace p1 := p1.alloc (Obj.cells #[Value.int IntKind.u32 0, Value.int IntKind.i64 0] 25)
  replace p2 := p2.alloc (Obj.cells #[Value.int IntKind.u32 0, Value.int IntKind.i64 0] 25)
  replace p3 := p3.alloc (Obj.cells #[Value.int IntKind.u32 0, Value.int IntKind.i64 0] 25)
  replace B1 := B1.alloc B1.size (Obj.cells #[Value.int IntKind.u32 0, Value.int IntKind.i64 0] 25)
  go_wp2_with fail
  generalize w10.alloc (Obj.cells #[Value.int IntKind.u32 0, Value.int IntKind.i64 0] 25) = W10 at *
  have d0 := cell_regrown p1.c0
  have d1 := cell_regrown p1.c1
  have d2 := cell_regrown p2.c0
  have d3 := cell_regrown p2.c1
  have d4 := cell_regrown p3.c0
  have d5 := cell_regrown p3.c1
  have HB := Lib.hid B1
  clear B1 p1 p2 p3 S1 hb1
  simp only [List.append]
  refine wp_region_quiet_below (by kernel_rfl) (by kernel_rfl) ?_
  repeat (go_big_quiet_step (first | exact num2_b _ _ _ _ | exact of_b _ _ _ _ _ | exact Calls.regrown_of (Has_w _) | exact Calls.regrown_of (Check_w _)))
  refine wpQuiet_nil ?_
  intro _ hw'
  obtain ⟨⟨dq, osq⟩, hw''⟩ := hw'
  subst hw''
  go_wp2_with fail
  go_ret
  exact ⟨rfl, bthen HB.out (below_regrown _ dq osq)⟩

end Go.Proofs.YtmmoccceafcfkaaDoor
