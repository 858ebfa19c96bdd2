/- Merged: E1 E2. -/
import Derived.Test.YtbacahoihkpkpaaDoorM8
/- Contracts of the reference of layer 2: Bit, Right, Mask, Of, Len, Has. -/
namespace Go.Proofs.YtbacahoihkpkpaaDoor
open Go.RowKit

theorem div_pow_succ (a : Int) (m : Nat) : a / 2 ^ m / 2 = a / 2 ^ (m + 1) := by
  rw [Int.pow_succ, Int.ediv_ediv_of_nonneg (Int.le_of_lt (Int.pow_pos (by omega)))]

set_option maxHeartbeats 400000 in
theorem rBit_any (a i : Int) (w : World) (h0 : 0 ≤ a) (h1 : a < 4294967296) :
    Calls Tryd.prog 43 #[.int .u32 a, .int .i64 i] w fun e w' => e = .returned (.int .i64 (bitI a i)) ∧ w = w' := by
  by_cases c1 : i < 0
  · have t1 : decide (i < 0) = true := by simp; omega
    go_enter Tryd.func43, Tryd.ntmps43
    go_wp2
    go_ret
    exact ⟨ret_int (by simp [bitI, c1]), rfl⟩
  · have t1 : decide (i < 0) = false := by simp; omega
    by_cases c2 : 31 < i
    · have t2 : decide (31 < i) = true := by simp; omega
      go_enter Tryd.func43, Tryd.ntmps43
      go_wp2
      go_ret
      exact ⟨ret_int (by unfold bitI; rw [if_pos (by omega)]), rfl⟩
    · have t2 : decide (31 < i) = false := by simp; omega
      go_enter Tryd.func43, Tryd.ntmps43
      go_wp2
      go_loop [5, 6] (fun n k => ∃ j : Nat, j ≤ 31 ∧ i ≤ 31 - (j : Int) ∧ k = .int .i64 (31 - (j : Int)) ∧ n = .int .i64 (a / 2 ^ j)) (fun _ k => (intOf k - i).toNat)
      case atStart => exact ⟨0, by omega, by omega, rfl, by simp⟩
      case round =>
        obtain ⟨j, hj, hi, rfl, rfl⟩ := hrel
        have d0 : 0 ≤ a / 2 ^ j := Int.ediv_nonneg h0 (Int.le_of_lt (Int.pow_pos (by omega)))
        have d1 : a / 2 ^ j ≤ a := Int.ediv_le_self _ h0
        by_cases hlt : i < 31 - (j : Int)
        · have HS := Lib.hid (div_pow_succ a j)
          go_wp2
          go_round
          case rel => exact ⟨j + 1, by omega, by omega, by go_num, by rw [HS.out]⟩
          case measure => simp [intOf]; omega
        · go_wp2
          go_ret
          refine ⟨ret_int ?_, rfl⟩
          unfold bitI
          rw [if_neg (by omega), show (31 - i).toNat = j by omega]

theorem rBit_q (a i : Int) (w : World) (k : Nat) (h0 : 0 ≤ a) (h1 : a < 4294967296) :
    Calls Tryd.prog 43 #[.int .u32 a, .int .i64 i] (w.drewN k) fun e w' => e = .returned (.int .i64 (bitI a i)) ∧ ∃ m, w' = w.drewN m :=
  (rBit_any a i _ h0 h1).mono fun _ _ ⟨he, hw⟩ => ⟨he, k, hw.symm⟩

set_option maxHeartbeats 400000 in
theorem rRight_any (a n : Int) (w : World) (h0 : 0 ≤ a) (h1 : a < 4294967296) :
    Calls Tryd.prog 40 #[.agg #[.int .u32 a, .int .i64 n]] w fun e w' => e = .returned (.bool (rightB a n)) ∧ Below w.heap.size w w' := by
  by_cases c1 : n < 0
  · have t1 : decide (n < 0) = true := by simp; omega
    have H := Lib.hid (show rightB a n = false by simp [rightB]; omega)
    go_enter Tryd.func40, Tryd.ntmps40
    go_wp2
    go_ret
    exact ⟨ret_bool H.out.symm, (Below.refl _ _).alloc (Nat.le_refl _) _⟩
  · have t1 : decide (n < 0) = false := by simp; omega
    by_cases c2 : 32 < n
    · have t2 : decide (32 < n) = true := by simp; omega
      have H := Lib.hid (show rightB a n = false by simp [rightB]; omega)
      go_enter Tryd.func40, Tryd.ntmps40
      go_wp2
      go_ret
      exact ⟨ret_bool H.out.symm, (Below.refl _ _).alloc (Nat.le_refl _) _⟩
    · have t2 : decide (32 < n) = false := by simp; omega
      have H := Lib.hid (right_bits a n h0 h1 (by omega) (by omega))
      go_enter Tryd.func40, Tryd.ntmps40
      go_wp2
      go_loop [3] (fun k => ∃ j : Nat, n ≤ j ∧ j ≤ 32 ∧ k = .int .i64 j ∧ ∀ i : Nat, n ≤ i → i < j → bitB a i = false) (fun k => (32 - intOf k).toNat)
      case atStart => exact ⟨n.toNat, by omega, by omega, by rw [Int.toNat_of_nonneg (by omega)], fun i h1 h2 => by omega⟩
      case round =>
        obtain ⟨j, hj0, hj1, rfl, hall⟩ := hrel
        have HA := Lib.hid hall
        clear hall
        by_cases hlt : j < 32
        · have HZ := Lib.hid (bitI_zero_iff a j h0 hlt)
          by_cases hb : bitI a j = 0
          · have tb : (bitI a j != 0) = false := by simp [hb]
            have HB := Lib.hid (HZ.out.1 hb)
            clear hb
            go_wp2_with (go_at_call 43; refine (rBit_any _ _ _ h0 h1).mono ?_; rintro e w' ⟨rfl, rfl⟩)
            go_round
            case rel => exact ⟨j + 1, by omega, by omega, by go_num, fun i g1 g2 => by
              by_cases hij : i = j
              · rw [hij]; exact HB.out
              · exact HA.out i g1 (by omega)⟩
            case measure => simp [intOf]; omega
          · have tb : (bitI a j != 0) = true := by simp [hb]
            have HB := Lib.hid (show rightB a n = false by
              rw [← Bool.not_eq_true, H.out]
              intro hh
              exact hb (HZ.out.2 (hh j hj0 hlt)))
            clear hb
            go_wp2_with (go_at_call 43; refine (rBit_any _ _ _ h0 h1).mono ?_; rintro e w' ⟨rfl, rfl⟩)
            go_ret
            exact ⟨ret_bool HB.out.symm, (Below.refl _ _).alloc (Nat.le_refl _) _⟩
        · have HB := Lib.hid (show rightB a n = true by
            rw [H.out]
            intro i g1 g2
            exact HA.out i g1 (by omega))
          go_wp2
          go_ret
          exact ⟨ret_bool HB.out.symm, (Below.refl _ _).alloc (Nat.le_refl _) _⟩

theorem pow_31 (i : Nat) (h : i ≤ 31) : (2 : Int) ^ i ≤ 2147483648 := by
  have : (2 : Nat) ^ i ≤ 2 ^ 31 := Nat.pow_le_pow_right (by omega) h
  have e : ((2 ^ i : Nat) : Int) = (2 : Int) ^ i := by norm_cast
  omega
end Go.Proofs.YtbacahoihkpkpaaDoor
/- Contracts of the reference of layer 2: Of, Len, Has. -/
namespace Go.Proofs.YtbacahoihkpkpaaDoor
open Go.RowKit

/-- what Of has after i of 32 bits -/
def ofTo (a : Int) (n i : Nat) : Int := a / 2 ^ (32 - min i n) * 2 ^ (i - min i n)
theorem ofTo_zero (a : Int) (n : Nat) (h0 : 0 ≤ a) (h1 : a < 4294967296) : ofTo a n 0 = 0 := by
  unfold ofTo
  rw [show min 0 n = 0 by omega]
  simp
  omega
theorem ofTo_lt (a : Int) (n i : Nat) (h : i < n) (hn : n ≤ 32) : ofTo a n (i + 1) = 2 * ofTo a n i + bitI a i := by
  unfold ofTo bitI
  rw [show min (i + 1) n = i + 1 by omega, show min i n = i by omega, Nat.sub_self, Nat.sub_self, if_neg (by omega), show (31 - (i : Int)).toNat = 31 - i by omega, show 32 - (i + 1) = 31 - i by omega, show 32 - i = (31 - i) + 1 by omega, ← div_pow_succ]
  generalize a / 2 ^ (31 - i) = x
  omega
theorem ofTo_ge (a : Int) (n i : Nat) (h : n ≤ i) : ofTo a n (i + 1) = 2 * ofTo a n i := by
  unfold ofTo
  rw [show min (i + 1) n = n by omega, show min i n = n by omega, show i + 1 - n = (i - n) + 1 by omega, Int.pow_succ, ← Int.mul_assoc]
  generalize a / 2 ^ (32 - n) * 2 ^ (i - n) = x
  omega
theorem ofTo_bd (a : Int) (n i : Nat) (hn : n ≤ 32) (h0 : 0 ≤ a) (h1 : a < 4294967296) : 0 ≤ ofTo a n i ∧ ofTo a n i ≤ 2 ^ i - 1 := by
  induction i with
  | zero => rw [ofTo_zero a n h0 h1]; simp
  | succ i ih =>
    have hp : (2 : Int) ^ (i + 1) = 2 * 2 ^ i := by rw [Int.pow_succ]; omega
    by_cases h : i < n
    · have := bitI_01 a i
      rw [ofTo_lt a n i h hn, hp]; omega
    · rw [ofTo_ge a n i (by omega), hp]; omega
theorem ofTo_and (a : Int) (n : Nat) (hn : n ≤ 32) (h0 : 0 ≤ a) (h1 : a < 4294967296) : ofTo a n 32 = andM a n := by
  rw [andM_nat a n (by omega) (by omega) h0 h1]
  unfold ofTo
  rw [show min 32 n = n by omega, show (32 - (n : Int)).toNat = 32 - n by omega]
  obtain ⟨x, rfl⟩ := Int.eq_ofNat_of_zero_le h0
  rw [Int.toNat_natCast, Int.natCast_mul, Int.natCast_ediv, Int.natCast_pow]
  rfl

set_option maxHeartbeats 400000 in
theorem rOf_any (a : Int) (n : Nat) (w : World) (h0 : 0 ≤ a) (h1 : a < 4294967296) (hn : n ≤ 32) :
    Calls Tryd.prog 41 #[.int .u32 a, .int .i64 n] w fun e w' => e = .returned (.agg #[.int .u32 (andM a n), .int .i64 n]) ∧ Below w.heap.size w w' := by
  have H := Lib.hid (ofTo_and a n hn h0 h1)
  have HZ := Lib.hid (ofTo_zero a n h0 h1)
  go_enter Tryd.func41, Tryd.ntmps41
  go_wp2
  go_loop [5, 6] (fun m k => ∃ i : Nat, i ≤ 32 ∧ k = .int .i64 i ∧ m = .int .u32 (ofTo a n i)) (fun _ k => (32 - intOf k).toNat)
  case atStart => exact ⟨0, by omega, rfl, by rw [HZ.out]⟩
  case round =>
    obtain ⟨i, hi, rfl, rfl⟩ := hrel
    by_cases hlt : i < 32
    · have hb := ofTo_bd a n i hn h0 h1
      have hp := pow_31 i (by omega)
      have b0 := hb.1
      have b1 : ofTo a n i ≤ 2147483647 := by omega
      clear hb hp
      have b2 := bitI_01 a i
      have b3 := b2.1
      have b4 := b2.2
      clear b2
      by_cases hin : i < n
      · have HS := Lib.hid (ofTo_lt a n i hin hn)
        go_wp2_with (go_at_call 43; refine (rBit_any _ _ _ h0 h1).mono ?_; rintro e w' ⟨rfl, rfl⟩)
        go_round
        case rel => exact ⟨i + 1, by omega, by go_num, by rw [HS.out]⟩
        case measure => simp [intOf]; omega
      · have HS := Lib.hid (ofTo_ge a n i (by omega))
        go_wp2
        go_round
        case rel => exact ⟨i + 1, by omega, by go_num, by rw [HS.out]⟩
        case measure => simp [intOf]; omega
    · obtain rfl : i = 32 := by omega
      go_wp2
      refine bodyPost_ret (v := .agg #[.int .u32 (andM a n), .int .i64 n]) (by simp [results, Tryd.results41, go_sem, H.out]) rfl ⟨rfl, ?_⟩
      exact (Below.refl _ _).alloc (Nat.le_refl _) _

set_option maxHeartbeats 400000 in
theorem rHas_any (pa pn a : Int) (w : World) (p0 : 0 ≤ pa) (p1 : pa < 4294967296) (a0 : 0 ≤ a) (a1 : a < 4294967296) :
    Calls Tryd.prog 21 #[.agg #[.int .u32 pa, .int .i64 pn], .int .u32 a] w fun e w' => e = .returned (.bool (hasB pa pn a)) ∧ Below w.heap.size w w' := by
  cases hr : rightB pa pn with
  | false =>
    have HR := Lib.hid hr
    clear hr
    go_enter Tryd.func21, Tryd.ntmps21
    go_wp2_with fail
    refine (rRight_any _ _ _ p0 p1).mono ?_
    rw [HR.out]
    rintro e w1 ⟨rfl, hb⟩
    go_wp2
    go_ret
    exact ⟨ret_bool (by unfold hasB; rw [HR.out]; rfl), bthen ((Below.refl _ _).alloc (Nat.le_refl _) _) hb⟩
  | true =>
    have HR := Lib.hid hr
    have hl := rightB_len hr
    have HB := Lib.hid (has_bits pa a pn p0 p1 a0 a1 hr)
    clear hr
    go_enter Tryd.func21, Tryd.ntmps21
    go_wp2_with fail
    refine (rRight_any _ _ _ p0 p1).mono ?_
    rw [HR.out]
    rintro e w1 ⟨rfl, hb⟩
    have c0 := (hb.cell (p := ⟨w.heap.size, 0, none⟩) (by simp)).trans (show _ = some (.int .u32 pa) by simp [go_sem])
    have c1 := (hb.cell (p := ⟨w.heap.size, 1, none⟩) (by simp)).trans (show _ = some (.int .i64 pn) by simp [go_sem])
    have hB := bthen ((Below.refl _ _).alloc (Nat.le_refl _) _) hb
    clear hb
    go_wp2
    go_loop [5] (fun k => ∃ i : Nat, i ≤ pn ∧ k = .int .i64 i ∧ ∀ j : Nat, j < i → bitB pa j = bitB a j) (fun k => (pn - intOf k).toNat)
    case atStart => exact ⟨0, by omega, rfl, fun j hj => by omega⟩
    case round =>
      obtain ⟨i, hi, rfl, hall⟩ := hrel
      have HA := Lib.hid hall
      clear hall
      by_cases hlt : (i : Int) < pn
      · have HE := Lib.hid (bitI_eq_iff pa a i p0 a0 (by omega))
        by_cases he : bitI pa i = bitI a i
        · have t : (bitI pa i != bitI a i) = false := by simp [he]
          have HE2 := Lib.hid (HE.out.1 he)
          clear he
          go_wp2_with (go_at_call 43; refine (rBit_any _ _ _ (by assumption) (by assumption)).mono ?_; rintro e w' ⟨rfl, rfl⟩)
          go_round
          case rel => exact ⟨i + 1, by omega, by go_num, fun j hj => by
            by_cases hji : j = i
            · rw [hji]; exact HE2.out
            · exact HA.out j (by omega)⟩
          case measure => simp [intOf]; omega
        · have t : (bitI pa i != bitI a i) = true := by simp [he]
          have HF := Lib.hid (show hasB pa pn a = false by
            unfold hasB
            rw [HR.out, Bool.true_and, beq_eq_false_iff_ne]
            intro h
            exact he (HE.out.2 (HB.out.1 h i hlt)))
          clear he
          go_wp2_with (go_at_call 43; refine (rBit_any _ _ _ (by assumption) (by assumption)).mono ?_; rintro e w' ⟨rfl, rfl⟩)
          go_ret
          exact ⟨ret_bool HF.out.symm, hB⟩
      · have HF := Lib.hid (show hasB pa pn a = true by
          unfold hasB
          rw [HR.out, Bool.true_and, beq_iff_eq]
          exact HB.out.2 fun j hj => HA.out j (by omega))
        go_wp2
        go_ret
        exact ⟨ret_bool HF.out.symm, hB⟩
end Go.Proofs.YtbacahoihkpkpaaDoor
