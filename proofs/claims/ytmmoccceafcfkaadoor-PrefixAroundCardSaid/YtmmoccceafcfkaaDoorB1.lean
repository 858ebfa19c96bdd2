/- Contracts of package addr: joined, Of, Parts, the closures of kindRules, Kind. -/
import Derived.Test.YtmmoccceafcfkaaDoorA5
namespace Go.Proofs.YtmmoccceafcfkaaDoor
open Go.RowKit

set_option maxHeartbeats 400000 in
theorem joinedI (b : Nat) (x y : Int) (w : World) (x0 : 0 ≤ x) (x1 : x ≤ 255) (y0 : 0 ≤ y) (y1 : y ≤ 9) (c0 : w.cell? ⟨b, 0, none⟩ = some (.int .i64 x)) (c1 : w.cell? ⟨b, 1, none⟩ = some (.int .i64 y)) :
    Calls Tryd.prog 89 #[.int .i64 10, .slice (some ⟨b, 0, none⟩) 2 2] w fun e w' => e = .returned (.int .i64 (x * 10 + y)) ∧ w = w' := by
  go_enter Tryd.func89, Tryd.ntmps89
  go_wp2
  refine wp_loop_rounds 3 ?_
  rw [rounds_succ]
  go_wp2
  rw [rounds_succ]
  go_wp2
  rw [rounds_succ]
  go_wp2
  go_ret
  exact ⟨rfl, rfl⟩

set_option maxHeartbeats 400000 in
theorem joinedA (b : Nat) (x y z t : Int) (w : World) (x0 : 0 ≤ x) (x1 : x ≤ 255) (y0 : 0 ≤ y) (y1 : y ≤ 255) (z0 : 0 ≤ z) (z1 : z ≤ 255) (t0 : 0 ≤ t) (t1 : t ≤ 255)
    (c0 : w.cell? ⟨b, 0, none⟩ = some (.int .u32 x)) (c1 : w.cell? ⟨b, 1, none⟩ = some (.int .u32 y)) (c2 : w.cell? ⟨b, 2, none⟩ = some (.int .u32 z)) (c3 : w.cell? ⟨b, 3, none⟩ = some (.int .u32 t)) :
    Calls Tryd.prog 64 #[.int .u32 256, .slice (some ⟨b, 0, none⟩) 4 4] w fun e w' => e = .returned (.int .u32 (((x * 256 + y) * 256 + z) * 256 + t)) ∧ w = w' := by
  go_enter Tryd.func64, Tryd.ntmps64
  go_wp2
  refine wp_loop_rounds 5 ?_
  rw [rounds_succ]
  go_wp2
  rw [rounds_succ]
  go_wp2
  rw [rounds_succ]
  go_wp2
  rw [rounds_succ]
  go_wp2
  rw [rounds_succ]
  go_wp2
  go_ret
  exact ⟨rfl, rfl⟩

set_option maxHeartbeats 400000 in
theorem AddrOf (x y z t : Int) (w : World) (x0 : 0 ≤ x) (x1 : x ≤ 255) (y0 : 0 ≤ y) (y1 : y ≤ 255) (z0 : 0 ≤ z) (z1 : z ≤ 255) (t0 : 0 ≤ t) (t1 : t ≤ 255) :
    Calls Tryd.prog 35 #[.int .u8 x, .int .u8 y, .int .u8 z, .int .u8 t] w fun e w' => e = .returned (.int .u32 (((x * 256 + y) * 256 + z) * 256 + t)) ∧ Below w.heap.size w w' := by
  go_enter Tryd.func35, Tryd.ntmps35
  go_wp2_with (go_at_call 64; refine (joinedA _ x y z t _ x0 x1 y0 y1 z0 z1 t0 t1 (by simp [go_sem]) (by simp [go_sem]) (by simp [go_sem]) (by simp [go_sem])).mono ?_; rintro e w' ⟨rfl, rfl⟩)
  go_ret
  exact ⟨rfl, (Below.refl _ _).alloc (Nat.le_refl _) _⟩

set_option maxHeartbeats 400000 in
theorem Parts_any (a : Int) (w : World) (a0 : 0 ≤ a) (a1 : a < 4294967296) :
    Calls Tryd.prog 33 #[.int .u32 a] w fun e w' => e = .returned (.agg #[.int .u8 (a / 16777216), .int .u8 (a / 65536 % 256), .int .u8 (a / 256 % 256), .int .u8 (a % 256)]) ∧ Below w.heap.size w w' := by
  go_enter Tryd.func33, Tryd.ntmps33
  go_wp2
  exact bodyPost_ret (v := .agg #[.int .u8 (a / 16777216), .int .u8 (a / 65536 % 256), .int .u8 (a / 256 % 256), .int .u8 (a % 256)]) (by simp [results, Tryd.results33, go_sem]) rfl ⟨rfl, (Below.refl _ _).alloc (Nat.le_refl _) _⟩

set_option maxHeartbeats 400000 in
theorem first_any (a : Int) (w : World) (a0 : 0 ≤ a) (a1 : a < 4294967296) :
    Calls Tryd.prog 82 #[.int .u32 a] w fun e w' => e = .returned (.int .u8 (a / 16777216)) ∧ Below w.heap.size w w' := by
  have i0 : ∀ (x0 x1 x2 x3 : Value) (w : World), (Instr.index 52 (.agg #[x0, x1, x2, x3]) (.int .i64 0)).run Tryd.prog w = .ok x0 w := fun _ _ _ _ _ => by kernel_rfl
  go_enter Tryd.func82, Tryd.ntmps82
  go_wp2_with (go_at_call 33; refine (Parts_any _ _ a0 a1).mono ?_; rintro e w' ⟨rfl, hb⟩)
  go_ret
  exact ⟨rfl, hb⟩

set_option maxHeartbeats 400000 in
theorem rule83 (a : Int) (w : World) (r : Bool) (hr : (a == 0) = r) :
    Calls Tryd.prog 83 #[.int .u32 a] w fun e w' => e = .returned (.bool r) ∧ w = w' := by
  go_enter Tryd.func83, Tryd.ntmps83
  go_wp2
  go_ret
  exact ⟨rfl, rfl⟩
set_option maxHeartbeats 400000 in
theorem rule88 (a : Int) (w : World) :
    Calls Tryd.prog 88 #[.int .u32 a] w fun e w' => e = .returned (.bool true) ∧ w = w' := by
  go_enter Tryd.func88, Tryd.ntmps88
  go_wp2
  go_ret
  exact ⟨rfl, rfl⟩

set_option maxHeartbeats 400000 in
theorem rule84 (a : Int) (b : Nat) (w : World) (r : Bool) (a0 : 0 ≤ a) (a1 : a < 4294967296) (hc : w.cell? ⟨b, 0, none⟩ = some (.func (.func 82) #[] #[])) (hr : (a / 16777216 == 0) = r) :
    Calls Tryd.prog 84 #[.int .u32 a, .pointer (some ⟨b, 0, none⟩)] w fun e w' => e = .returned (.bool r) ∧ Below w.heap.size w w' := by
  have H := Lib.hid hr
  clear hr
  go_enter Tryd.func84, Tryd.ntmps84
  go_wp2_with (go_at_call 82; refine (first_any _ _ a0 a1).mono ?_; rintro e w' ⟨rfl, hb⟩)
  go_ret
  exact ⟨ret_bool H.out, hb⟩

set_option maxHeartbeats 400000 in
theorem rule85 (a : Int) (b : Nat) (w : World) (r : Bool) (a0 : 0 ≤ a) (a1 : a < 4294967296) (hc : w.cell? ⟨b, 0, none⟩ = some (.func (.func 82) #[] #[])) (hr : (a / 16777216 == 127) = r) :
    Calls Tryd.prog 85 #[.int .u32 a, .pointer (some ⟨b, 0, none⟩)] w fun e w' => e = .returned (.bool r) ∧ Below w.heap.size w w' := by
  have H := Lib.hid hr
  clear hr
  go_enter Tryd.func85, Tryd.ntmps85
  go_wp2_with (go_at_call 82; refine (first_any _ _ a0 a1).mono ?_; rintro e w' ⟨rfl, hb⟩)
  go_ret
  exact ⟨ret_bool H.out, hb⟩

set_option maxHeartbeats 400000 in
theorem rule87 (a : Int) (b : Nat) (w : World) (r : Bool) (a0 : 0 ≤ a) (a1 : a < 4294967296) (hc : w.cell? ⟨b, 0, none⟩ = some (.func (.func 82) #[] #[])) (hr : decide (240 ≤ a / 16777216) = r) :
    Calls Tryd.prog 87 #[.int .u32 a, .pointer (some ⟨b, 0, none⟩)] w fun e w' => e = .returned (.bool r) ∧ Below w.heap.size w w' := by
  have H := Lib.hid hr
  clear hr
  go_enter Tryd.func87, Tryd.ntmps87
  go_wp2_with (go_at_call 82; refine (first_any _ _ a0 a1).mono ?_; rintro e w' ⟨rfl, hb⟩)
  go_ret
  exact ⟨ret_bool H.out, hb⟩

set_option maxHeartbeats 400000 in
theorem rule86 (a : Int) (b : Nat) (w : World) (r : Bool) (a0 : 0 ≤ a) (a1 : a < 4294967296) (hc : w.cell? ⟨b, 0, none⟩ = some (.func (.func 82) #[] #[])) (hr : (decide (224 ≤ a / 16777216) && decide (a / 16777216 ≤ 239)) = r) :
    Calls Tryd.prog 86 #[.int .u32 a, .pointer (some ⟨b, 0, none⟩)] w fun e w' => e = .returned (.bool r) ∧ Below w.heap.size w w' := by
  have hlt := World.block_lt_of_cell? w _ hc
  by_cases c1 : 224 ≤ a / 16777216
  · have t1 : decide (224 ≤ a / 16777216) = true := by simp; omega
    rw [t1] at hr
    have H := Lib.hid hr
    clear hr
    go_enter Tryd.func86, Tryd.ntmps86
    go_wp2_with fail
    refine (first_any _ _ a0 a1).mono ?_
    rintro e w1 ⟨rfl, hb⟩
    have hc1 := (hb.cell (p := ⟨b, 0, none⟩) hlt).trans hc
    go_wp2_with fail
    refine (first_any _ _ a0 a1).mono ?_
    rintro e w2 ⟨rfl, hb2⟩
    go_wp2_with fail
    go_ret
    exact ⟨ret_bool H.out, bthen hb hb2⟩
  · have t1 : decide (224 ≤ a / 16777216) = false := by simp; omega
    rw [t1] at hr
    have H := Lib.hid hr
    clear hr
    go_enter Tryd.func86, Tryd.ntmps86
    go_wp2_with fail
    refine (first_any _ _ a0 a1).mono ?_
    rintro e w1 ⟨rfl, hb⟩
    go_wp2_with fail
    go_ret
    exact ⟨ret_bool H.out, hb⟩
end Go.Proofs.YtmmoccceafcfkaaDoor
