/- Contracts of package addr: Parts, the closures of kindRules. -/
import Derived.Test.YtahkhecfnimdbaaDoorA0
namespace Go.Proofs.YtahkhecfnimdbaaDoor
open Go.RowKit

set_option maxHeartbeats 400000 in
theorem Parts_any (a : Int) (w : World) (a0 : 0 ≤ a) (a1 : a < 4294967296) :
    Calls Tryd.prog 52 #[.int .u32 a] w fun e w' => e = .returned (.agg #[.int .u8 (a / 16777216), .int .u8 (a / 65536 % 256), .int .u8 (a / 256 % 256), .int .u8 (a % 256)]) ∧ Below w.heap.size w w' := by
  go_enter Tryd.func52, Tryd.ntmps52
  go_wp2
  exact bodyPost_ret (v := .agg #[.int .u8 (a / 16777216), .int .u8 (a / 65536 % 256), .int .u8 (a / 256 % 256), .int .u8 (a % 256)]) (by simp [results, Tryd.results52, go_sem]) rfl ⟨rfl, (Below.refl _ _).alloc (Nat.le_refl _) _⟩

set_option maxHeartbeats 400000 in
theorem first_any (a : Int) (w : World) (a0 : 0 ≤ a) (a1 : a < 4294967296) :
    Calls Tryd.prog 51 #[.int .u32 a] w fun e w' => e = .returned (.int .u8 (a / 16777216)) ∧ Below w.heap.size w w' := by
  have i0 : ∀ (x0 x1 x2 x3 : Value) (w : World), (Instr.index 105 (.agg #[x0, x1, x2, x3]) (.int .i64 0)).run Tryd.prog w = .ok x0 w := fun _ _ _ _ _ => by kernel_rfl
  go_enter Tryd.func51, Tryd.ntmps51
  go_wp2_with (go_at_call 52; refine (Parts_any _ _ a0 a1).mono ?_; rintro e w' ⟨rfl, hb⟩)
  go_ret
  exact ⟨rfl, hb⟩

set_option maxHeartbeats 400000 in
theorem rule83 (a : Int) (w : World) (r : Bool) (hr : (a == 0) = r) :
    Calls Tryd.prog 53 #[.int .u32 a] w fun e w' => e = .returned (.bool r) ∧ w = w' := by
  go_enter Tryd.func53, Tryd.ntmps53
  go_wp2
  go_ret
  exact ⟨rfl, rfl⟩
set_option maxHeartbeats 400000 in
theorem rule88 (a : Int) (w : World) :
    Calls Tryd.prog 58 #[.int .u32 a] w fun e w' => e = .returned (.bool true) ∧ w = w' := by
  go_enter Tryd.func58, Tryd.ntmps58
  go_wp2
  go_ret
  exact ⟨rfl, rfl⟩

set_option maxHeartbeats 400000 in
theorem rule84 (a : Int) (b : Nat) (w : World) (r : Bool) (a0 : 0 ≤ a) (a1 : a < 4294967296) (hc : w.cell? ⟨b, 0, none⟩ = some (.func (.func 51) #[] #[])) (hr : (a / 16777216 == 0) = r) :
    Calls Tryd.prog 54 #[.int .u32 a, .pointer (some ⟨b, 0, none⟩)] w fun e w' => e = .returned (.bool r) ∧ Below w.heap.size w w' := by
  have H := Lib.hid hr
  clear hr
  go_enter Tryd.func54, Tryd.ntmps54
  go_wp2_with (go_at_call 51; refine (first_any _ _ a0 a1).mono ?_; rintro e w' ⟨rfl, hb⟩)
  go_ret
  exact ⟨ret_bool H.out, hb⟩

set_option maxHeartbeats 400000 in
theorem rule85 (a : Int) (b : Nat) (w : World) (r : Bool) (a0 : 0 ≤ a) (a1 : a < 4294967296) (hc : w.cell? ⟨b, 0, none⟩ = some (.func (.func 51) #[] #[])) (hr : (a / 16777216 == 127) = r) :
    Calls Tryd.prog 55 #[.int .u32 a, .pointer (some ⟨b, 0, none⟩)] w fun e w' => e = .returned (.bool r) ∧ Below w.heap.size w w' := by
  have H := Lib.hid hr
  clear hr
  go_enter Tryd.func55, Tryd.ntmps55
  go_wp2_with (go_at_call 51; refine (first_any _ _ a0 a1).mono ?_; rintro e w' ⟨rfl, hb⟩)
  go_ret
  exact ⟨ret_bool H.out, hb⟩

set_option maxHeartbeats 400000 in
theorem rule87 (a : Int) (b : Nat) (w : World) (r : Bool) (a0 : 0 ≤ a) (a1 : a < 4294967296) (hc : w.cell? ⟨b, 0, none⟩ = some (.func (.func 51) #[] #[])) (hr : decide (240 ≤ a / 16777216) = r) :
    Calls Tryd.prog 57 #[.int .u32 a, .pointer (some ⟨b, 0, none⟩)] w fun e w' => e = .returned (.bool r) ∧ Below w.heap.size w w' := by
  have H := Lib.hid hr
  clear hr
  go_enter Tryd.func57, Tryd.ntmps57
  go_wp2_with (go_at_call 51; refine (first_any _ _ a0 a1).mono ?_; rintro e w' ⟨rfl, hb⟩)
  go_ret
  exact ⟨ret_bool H.out, hb⟩

set_option maxHeartbeats 400000 in
theorem rule86 (a : Int) (b : Nat) (w : World) (r : Bool) (a0 : 0 ≤ a) (a1 : a < 4294967296) (hc : w.cell? ⟨b, 0, none⟩ = some (.func (.func 51) #[] #[])) (hr : (decide (224 ≤ a / 16777216) && decide (a / 16777216 ≤ 239)) = r) :
    Calls Tryd.prog 56 #[.int .u32 a, .pointer (some ⟨b, 0, none⟩)] w fun e w' => e = .returned (.bool r) ∧ Below w.heap.size w w' := by
  have hlt := World.block_lt_of_cell? w _ hc
  by_cases c1 : 224 ≤ a / 16777216
  · have t1 : decide (224 ≤ a / 16777216) = true := by simp; omega
    rw [t1] at hr
    have H := Lib.hid hr
    clear hr
    go_enter Tryd.func56, Tryd.ntmps56
    go_wp2_with fail
    refine (first_any _ _ a0 a1).mono ?_
    rintro e w1 ⟨rfl, hb⟩
    have hc1 := (hb.cell (p := ⟨b, 0, none⟩) hlt).trans hc
    go_wp2_with fail
    refine (first_any _ _ a0 a1).mono ?_
    rintro e w2 ⟨rfl, hb2⟩
    go_wp2_with fail
    go_ret
    exact ⟨ret_bool H.out, bthen hb hb2⟩
  · have t1 : decide (224 ≤ a / 16777216) = false := by simp; omega
    rw [t1] at hr
    have H := Lib.hid hr
    clear hr
    go_enter Tryd.func56, Tryd.ntmps56
    go_wp2_with fail
    refine (first_any _ _ a0 a1).mono ?_
    rintro e w1 ⟨rfl, hb⟩
    go_wp2_with fail
    go_ret
    exact ⟨ret_bool H.out, hb⟩
end Go.Proofs.YtahkhecfnimdbaaDoor
