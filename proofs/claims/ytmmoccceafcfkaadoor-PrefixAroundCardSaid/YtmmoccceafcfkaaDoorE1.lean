/- Contracts of the reference of layer 2: Bit, Right, Mask, Of, Len, Has. -/
import Derived.Test.YtmmoccceafcfkaaDoorM8
namespace Go.Proofs.YtmmoccceafcfkaaDoor
open Go.RowKit

theorem div_pow_succ (a : Int) (m : Nat) : a / 2 ^ m / 2 = a / 2 ^ (m + 1) := by
  rw [Int.pow_succ, Int.ediv_ediv_of_nonneg (Int.le_of_lt (Int.pow_pos (by omega)))]

set_option maxHeartbeats 400000 in
theorem rBit_any (a i : Int) (w : World) (h0 : 0 ≤ a) (h1 : a < 4294967296) :
    Calls Tryd.prog 23 #[.int .u32 a, .int .i64 i] w fun e w' => e = .returned (.int .i64 (bitI a i)) ∧ w = w' := by
  by_cases c1 : i < 0
  · have t1 : decide (i < 0) = true := by simp; omega
    go_enter Tryd.func23, Tryd.ntmps23
    go_wp2
    go_ret
    exact ⟨ret_int (by simp [bitI, c1]), rfl⟩
  · have t1 : decide (i < 0) = false := by simp; omega
    by_cases c2 : 31 < i
    · have t2 : decide (31 < i) = true := by simp; omega
      go_enter Tryd.func23, Tryd.ntmps23
      go_wp2
      go_ret
      exact ⟨ret_int (by unfold bitI; rw [if_pos (by omega)]), rfl⟩
    · have t2 : decide (31 < i) = false := by simp; omega
      go_enter Tryd.func23, Tryd.ntmps23
      go_wp2
      go_loop [5, 6] (fun n k => ∃ j : Nat, j ≤ 31 ∧ i ≤ 31 - (j : Int) ∧ k = .int .i64 (31 - (j : Int)) ∧ n = .int .i64 (a / 2 ^ j)) (fun _ k => (intOf k - i).toNat)
      case atStart => exact ⟨0, by omega, by omega, rfl, by simp⟩
      case round =>
        obtain ⟨j, hj, hi, rfl, rfl⟩ := hrel
        have d0 : 0 ≤ a / 2 ^ j := Int.ediv_nonneg h0 (Int.le_of_lt (Int.pow_pos (by omega)))
        have d1 : a / 2 ^ j ≤ a := Int.ediv_le_self _ h0
        by_cases hlt : i < 31 - (j : Int)
        · have HS := Lib.hid (div_pow_succ a j)
          go_wp2
          go_round
          case rel => exact ⟨j + 1, by omega, by omega, by go_num, by rw [HS.out]⟩
          case measure => simp [intOf]; omega
        · go_wp2
          go_ret
          refine ⟨ret_int ?_, rfl⟩
          unfold bitI
          rw [if_neg (by omega), show (31 - i).toNat = j by omega]

theorem rBit_q (a i : Int) (w : World) (k : Nat) (h0 : 0 ≤ a) (h1 : a < 4294967296) :
    Calls Tryd.prog 23 #[.int .u32 a, .int .i64 i] (w.drewN k) fun e w' => e = .returned (.int .i64 (bitI a i)) ∧ ∃ m, w' = w.drewN m :=
  (rBit_any a i _ h0 h1).mono fun _ _ ⟨he, hw⟩ => ⟨he, k, hw.symm⟩

set_option maxHeartbeats 400000 in
theorem rRight_any (a n : Int) (w : World) (h0 : 0 ≤ a) (h1 : a < 4294967296) :
    Calls Tryd.prog 19 #[.agg #[.int .u32 a, .int .i64 n]] w fun e w' => e = .returned (.bool (rightB a n)) ∧ Below w.heap.size w w' := by
  by_cases c1 : n < 0
  · have t1 : decide (n < 0) = true := by simp; omega
    have H := Lib.hid (show rightB a n = false by simp [rightB]; omega)
    go_enter Tryd.func19, Tryd.ntmps19
    go_wp2
    go_ret
    exact ⟨ret_bool H.out.symm, (Below.refl _ _).alloc (Nat.le_refl _) _⟩
  · have t1 : decide (n < 0) = false := by simp; omega
    by_cases c2 : 32 < n
    · have t2 : decide (32 < n) = true := by simp; omega
      have H := Lib.hid (show rightB a n = false by simp [rightB]; omega)
      go_enter Tryd.func19, Tryd.ntmps19
      go_wp2
      go_ret
      exact ⟨ret_bool H.out.symm, (Below.refl _ _).alloc (Nat.le_refl _) _⟩
    · have t2 : decide (32 < n) = false := by simp; omega
      have H := Lib.hid (right_bits a n h0 h1 (by omega) (by omega))
      go_enter Tryd.func19, Tryd.ntmps19
      go_wp2
      go_loop [3] (fun k => ∃ j : Nat, n ≤ j ∧ j ≤ 32 ∧ k = .int .i64 j ∧ ∀ i : Nat, n ≤ i → i < j → bitB a i = false) (fun k => (32 - intOf k).toNat)
      case atStart => exact ⟨n.toNat, by omega, by omega, by rw [Int.toNat_of_nonneg (by omega)], fun i h1 h2 => by omega⟩
      case round =>
        obtain ⟨j, hj0, hj1, rfl, hall⟩ := hrel
        have HA := Lib.hid hall
        clear hall
        by_cases hlt : j < 32
        · have HZ := Lib.hid (bitI_zero_iff a j h0 hlt)
          by_cases hb : bitI a j = 0
          · have tb : (bitI a j != 0) = false := by simp [hb]
            have HB := Lib.hid (HZ.out.1 hb)
            clear hb
            go_wp2_with (go_at_call 23; refine (rBit_any _ _ _ h0 h1).mono ?_; rintro e w' ⟨rfl, rfl⟩)
            go_round
            case rel => exact ⟨j + 1, by omega, by omega, by go_num, fun i g1 g2 => by
              by_cases hij : i = j
              · rw [hij]; exact HB.out
              · exact HA.out i g1 (by omega)⟩
            case measure => simp [intOf]; omega
          · have tb : (bitI a j != 0) = true := by simp [hb]
            have HB := Lib.hid (show rightB a n = false by
              rw [← Bool.not_eq_true, H.out]
              intro hh
              exact hb (HZ.out.2 (hh j hj0 hlt)))
            clear hb
            go_wp2_with (go_at_call 23; refine (rBit_any _ _ _ h0 h1).mono ?_; rintro e w' ⟨rfl, rfl⟩)
            go_ret
            exact ⟨ret_bool HB.out.symm, (Below.refl _ _).alloc (Nat.le_refl _) _⟩
        · have HB := Lib.hid (show rightB a n = true by
            rw [H.out]
            intro i g1 g2
            exact HA.out i g1 (by omega))
          go_wp2
          go_ret
          exact ⟨ret_bool HB.out.symm, (Below.refl _ _).alloc (Nat.le_refl _) _⟩

/-- the mask after i of 32 bits -/
def mkTo (n i : Nat) : Int := (2 ^ min i n - 1) * 2 ^ (i - min i n)
theorem mkTo_zero (n : Nat) : mkTo n 0 = 0 := by simp [mkTo]
theorem mkTo_lt (n i : Nat) (h : i < n) : mkTo n (i + 1) = 2 * mkTo n i + 1 := by
  unfold mkTo
  rw [show min (i + 1) n = i + 1 by omega, show min i n = i by omega, Nat.sub_self, Nat.sub_self, Int.pow_succ]
  omega
theorem mkTo_ge (n i : Nat) (h : n ≤ i) : mkTo n (i + 1) = 2 * mkTo n i := by
  unfold mkTo
  rw [show min (i + 1) n = n by omega, show min i n = n by omega, show i + 1 - n = (i - n) + 1 by omega, Int.pow_succ, ← Int.mul_assoc]
  generalize (2 ^ n - 1 : Int) * 2 ^ (i - n) = x
  omega
theorem mkTo_bd (n i : Nat) : 0 ≤ mkTo n i ∧ mkTo n i ≤ 2 ^ i - 1 := by
  induction i with
  | zero => simp [mkTo]
  | succ i ih =>
    have hp : (2 : Int) ^ (i + 1) = 2 * 2 ^ i := by rw [Int.pow_succ]; omega
    by_cases h : i < n
    · rw [mkTo_lt n i h, hp]; omega
    · rw [mkTo_ge n i (by omega), hp]; omega
theorem pow_31 (i : Nat) (h : i ≤ 31) : (2 : Int) ^ i ≤ 2147483648 := by
  have : (2 : Nat) ^ i ≤ 2 ^ 31 := Nat.pow_le_pow_right (by omega) h
  have e : ((2 ^ i : Nat) : Int) = (2 : Int) ^ i := by norm_cast
  omega
theorem mkTo_mk (n : Nat) (h : n ≤ 32) : mkTo n 32 = mk n := by
  rw [mk_nat n (by omega) (by omega)]
  unfold mkTo
  rw [show min 32 n = n by omega, show (32 - (n : Int)).toNat = 32 - n by omega]
  have hp : (2 : Nat) ^ (32 - n) ≤ 2 ^ 32 := Nat.pow_le_pow_right (by omega) (by omega)
  rw [Int.ofNat_sub hp]
  have e : (2 : Nat) ^ 32 = 2 ^ n * 2 ^ (32 - n) := by rw [← Nat.pow_add]; congr 1; omega
  rw [e, Int.natCast_mul, Int.natCast_pow, Int.natCast_pow, Int.sub_mul]
  simp

set_option maxHeartbeats 400000 in
theorem rMask_any (n : Nat) (w : World) (hn : n ≤ 32) :
    Calls Tryd.prog 26 #[.int .i64 n] w fun e w' => e = .returned (.int .u32 (mk n)) ∧ w = w' := by
  have H := Lib.hid (mkTo_mk n hn)
  go_enter Tryd.func26, Tryd.ntmps26
  go_wp2
  go_loop [3, 4] (fun m k => ∃ i : Nat, i ≤ 32 ∧ k = .int .i64 i ∧ m = .int .u32 (mkTo n i)) (fun _ k => (32 - intOf k).toNat)
  case atStart => exact ⟨0, by omega, rfl, by rw [mkTo_zero]⟩
  case round =>
    obtain ⟨i, hi, rfl, rfl⟩ := hrel
    by_cases hlt : i < 32
    · have hb := mkTo_bd n i
      have hp := pow_31 i (by omega)
      have b0 := hb.1
      have b1 : mkTo n i ≤ 2147483647 := by omega
      clear hb hp
      by_cases hin : i < n
      · have HS := Lib.hid (mkTo_lt n i hin)
        go_wp2
        go_round
        case rel => exact ⟨i + 1, by omega, by go_num, by rw [HS.out]⟩
        case measure => simp [intOf]; omega
      · have HS := Lib.hid (mkTo_ge n i (by omega))
        go_wp2
        go_round
        case rel => exact ⟨i + 1, by omega, by go_num, by rw [HS.out]⟩
        case measure => simp [intOf]; omega
    · obtain rfl : i = 32 := by omega
      go_wp2
      go_ret
      exact ⟨ret_int H.out, rfl⟩
end Go.Proofs.YtmmoccceafcfkaaDoor
