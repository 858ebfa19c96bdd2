/- Contracts of the reference of layer 1: Parts, Kind. -/
import Derived.Test.YtahkhecfnimdbaaDoorB2
namespace Go.Proofs.YtahkhecfnimdbaaDoor
open Go.RowKit

set_option maxHeartbeats 400000 in
theorem rParts_any (a : Int) (w : World) (a0 : 0 ≤ a) (a1 : a < 4294967296) :
    Calls Tryd.prog 59 #[.int .u32 a] w fun e w' => e = .returned (.agg #[.int .i64 (a / 16777216), .int .i64 (a / 65536 % 256), .int .i64 (a / 256 % 256), .int .i64 (a % 256)]) ∧ Below w.heap.size w w' := by
  go_enter Tryd.func59, Tryd.ntmps59
  go_wp2
  exact bodyPost_ret (v := .agg #[.int .i64 (a / 16777216), .int .i64 (a / 65536 % 256), .int .i64 (a / 256 % 256), .int .i64 (a % 256)]) (by simp [results, Tryd.results59, go_sem]) rfl ⟨rfl, (Below.refl _ _).alloc (Nat.le_refl _) _⟩

set_option maxRecDepth 100000 in
set_option maxHeartbeats 2000000 in
theorem rKind_any (a : Int) (w : World) (a0 : 0 ≤ a) (a1 : a < 4294967296) :
    Calls Tryd.prog 44 #[.int .u32 a] w fun e w' => e = .returned (.int .i64 (kindI a)) ∧ Below w.heap.size w w' := by
  have H : ∃ k : Nat, k ≤ 5 ∧ (∀ j, j < k → ruleB a j = false) ∧ ruleB a k = true := by
    cases h0 : ruleB a 0
    · cases h1 : ruleB a 1
      · cases h2 : ruleB a 2
        · cases h3 : ruleB a 3
          · cases h4 : ruleB a 4
            · exact ⟨5, by omega, fun j hj => (by match j, hj with | 0, _ => exact h0 | 1, _ => exact h1 | 2, _ => exact h2 | 3, _ => exact h3 | 4, _ => exact h4), rfl⟩
            · exact ⟨4, by omega, fun j hj => (by match j, hj with | 0, _ => exact h0 | 1, _ => exact h1 | 2, _ => exact h2 | 3, _ => exact h3), h4⟩
          · exact ⟨3, by omega, fun j hj => (by match j, hj with | 0, _ => exact h0 | 1, _ => exact h1 | 2, _ => exact h2), h3⟩
        · exact ⟨2, by omega, fun j hj => (by match j, hj with | 0, _ => exact h0 | 1, _ => exact h1), h2⟩
      · exact ⟨1, by omega, fun j hj => (by match j, hj with | 0, _ => exact h0), h1⟩
    · exact ⟨0, by omega, fun j hj => absurd hj (Nat.not_lt_zero _), h0⟩
  obtain ⟨k, hk, hf, ht⟩ := H
  have HK := Lib.hid (kind_of a k hk hf ht)
  have hcases : k = 0 ∨ k = 1 ∨ k = 2 ∨ k = 3 ∨ k = 4 ∨ k = 5 := by omega
  have fin : ∀ (n : Int) (W W' : World), n = kindI a → Below w.heap.size w W' → Ending.returned (.int .i64 n) = Ending.returned (.int .i64 (kindI a)) ∧ Below w.heap.size w W' := fun n W W' e hb => ⟨by rw [e], hb⟩
  rcases hcases with rfl | rfl | rfl | rfl | rfl | rfl
  · have t0 : (a == 0) = true := ht
    clear hf ht
    go_enter Tryd.func44, Tryd.ntmps44
    go_wp2_with (go_at_call 59; refine (rParts_any _ _ a0 a1).mono ?_; rintro e w' ⟨rfl, hb⟩)
    go_ret
    exact ⟨ret_int HK.out.symm, hb.trans ((Below.refl _ _).alloc hb.size _)⟩
  · have t0 : (a == 0) = false := hf 0 (by omega)
    have t1 : (a / 16777216 == 0) = true := ht
    clear hf ht
    go_enter Tryd.func44, Tryd.ntmps44
    go_wp2_with (go_at_call 59; refine (rParts_any _ _ a0 a1).mono ?_; rintro e w' ⟨rfl, hb⟩)
    go_ret
    exact ⟨ret_int HK.out.symm, hb.trans ((Below.refl _ _).alloc hb.size _)⟩
  · have t0 : (a == 0) = false := hf 0 (by omega)
    have t1 : (a / 16777216 == 0) = false := hf 1 (by omega)
    have t2 : (a / 16777216 == 127) = true := ht
    clear hf ht
    go_enter Tryd.func44, Tryd.ntmps44
    go_wp2_with (go_at_call 59; refine (rParts_any _ _ a0 a1).mono ?_; rintro e w' ⟨rfl, hb⟩)
    go_ret
    exact ⟨ret_int HK.out.symm, hb.trans ((Below.refl _ _).alloc hb.size _)⟩
  · have t0 : (a == 0) = false := hf 0 (by omega)
    have t1 : (a / 16777216 == 0) = false := hf 1 (by omega)
    have t2 : (a / 16777216 == 127) = false := hf 2 (by omega)
    have t3 : decide (224 ≤ a / 16777216) = true := by simp [ruleB] at ht; simp [ht]
    have t4 : decide (a / 16777216 ≤ 239) = true := by simp [ruleB] at ht; simp [ht]
    clear hf ht
    go_enter Tryd.func44, Tryd.ntmps44
    go_wp2_with (go_at_call 59; refine (rParts_any _ _ a0 a1).mono ?_; rintro e w' ⟨rfl, hb⟩)
    go_ret
    exact ⟨ret_int HK.out.symm, hb.trans ((Below.refl _ _).alloc hb.size _)⟩
  · have t0 : (a == 0) = false := hf 0 (by omega)
    have t1 : (a / 16777216 == 0) = false := hf 1 (by omega)
    have t2 : (a / 16777216 == 127) = false := hf 2 (by omega)
    have t5 : decide (240 ≤ a / 16777216) = true := ht
    have t3 : decide (224 ≤ a / 16777216) = true := by simp at t5 ⊢; omega
    have t4 : decide (a / 16777216 ≤ 239) = false := by simp at t5 ⊢; omega
    clear hf ht
    go_enter Tryd.func44, Tryd.ntmps44
    go_wp2_with (go_at_call 59; refine (rParts_any _ _ a0 a1).mono ?_; rintro e w' ⟨rfl, hb⟩)
    go_ret
    exact ⟨ret_int HK.out.symm, hb.trans ((Below.refl _ _).alloc hb.size _)⟩
  · have t0 : (a == 0) = false := hf 0 (by omega)
    have t1 : (a / 16777216 == 0) = false := hf 1 (by omega)
    have t2 : (a / 16777216 == 127) = false := hf 2 (by omega)
    have h3 := hf 3 (by omega)
    have t5 : decide (240 ≤ a / 16777216) = false := hf 4 (by omega)
    have t3 : decide (224 ≤ a / 16777216) = false := by simp [ruleB] at h3 t5 ⊢; omega
    clear hf ht h3
    go_enter Tryd.func44, Tryd.ntmps44
    go_wp2_with (go_at_call 59; refine (rParts_any _ _ a0 a1).mono ?_; rintro e w' ⟨rfl, hb⟩)
    go_ret
    exact ⟨ret_int HK.out.symm, hb.trans ((Below.refl _ _).alloc hb.size _)⟩
end Go.Proofs.YtahkhecfnimdbaaDoor
