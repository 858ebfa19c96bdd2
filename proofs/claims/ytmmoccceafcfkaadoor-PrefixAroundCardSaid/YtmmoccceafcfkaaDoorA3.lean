/- Contracts: math/bits.Len32, LeadingZeros32, prefix.Len. -/
import Derived.Test.YtmmoccceafcfkaaDoorA2
namespace Go.Proofs.YtmmoccceafcfkaaDoor
open Go.RowKit

def blen (x : Int) : Int := if x < 1 then 0 else (Nat.log2 x.toNat : Int) + 1

theorem blen_bd (x : Int) (h1 : x < 4294967296) : 0 ≤ blen x ∧ blen x ≤ 32 := by
  unfold blen
  split
  · omega
  · have : Nat.log2 x.toNat < 32 := (Nat.log2_lt (by omega)).2 (by omega)
    omega
theorem blen_div (x : Int) (k : Nat) (h : (2 : Int) ^ k ≤ x) : blen x = k + blen (x / 2 ^ k) := by
  have hp : (0 : Int) < 2 ^ k := Int.pow_pos (by omega)
  have h1 : 1 ≤ x / 2 ^ k := (Int.le_ediv_iff_mul_le hp).2 (by omega)
  unfold blen
  rw [if_neg (by omega), if_neg (by omega)]
  obtain ⟨n, rfl⟩ := Int.eq_ofNat_of_zero_le (show 0 ≤ x by omega)
  have e : ((n : Int) / 2 ^ k).toNat = n / 2 ^ k := by
    have : ((n : Int) / 2 ^ k) = ((n / 2 ^ k : Nat) : Int) := by norm_cast
    rw [this]; rfl
  rw [e]
  have hn : 2 ^ k ≤ n := by exact_mod_cast h
  have : Nat.log2 n = k + Nat.log2 (n / 2 ^ k) := by
    have hnz : n ≠ 0 := by have := Nat.pos_of_ne_zero (n := 2 ^ k) (by simp); omega
    have hdz : n / 2 ^ k ≠ 0 := by have := (Nat.le_div_iff_mul_le (Nat.two_pow_pos k)).2 (show 1 * 2 ^ k ≤ n by omega); omega
    rw [Nat.log2_eq_iff hnz]
    have l1 := Nat.log2_self_le hdz
    have l2 := Nat.lt_log2_self (n := n / 2 ^ k)
    have hd := Nat.div_add_mod n (2 ^ k)
    have hm := Nat.mod_lt n (Nat.two_pow_pos k)
    constructor
    · rw [Nat.pow_add]
      exact Nat.le_trans (Nat.mul_le_mul_left _ l1) (by omega)
    · rw [show k + (n / 2 ^ k).log2 + 1 = k + ((n / 2 ^ k).log2 + 1) by omega, Nat.pow_add]
      have := Nat.mul_le_mul_left (2 ^ k) (show n / 2 ^ k + 1 ≤ 2 ^ ((n / 2 ^ k).log2 + 1) by omega)
      rw [Nat.mul_add] at this
      omega
  simp only [Int.toNat_natCast]
  omega

theorem len8_of (t : ByteArray) (hsz : t.data.toList.length = 256) (ht : ∀ k : Fin 256, ((t.data.toList.getD k 0).toNat : Int) = blen k) (x : Int) (h0 : 0 ≤ x) (h1 : x < 256) (hx : x.toNat < t.size) : ((t[x.toNat]'hx).toNat : Int) = blen x := by
  have := ht ⟨x.toNat, by omega⟩
  have e : t.data.toList.getD x.toNat 0 = t[x.toNat]'hx := by
    have hx' : x.toNat < t.data.toList.length := by omega
    rw [List.getD_eq_getElem?_getD, List.getElem?_eq_getElem hx']
    rfl
  rw [e] at this
  rw [this]
  show blen ((x.toNat : Nat) : Int) = _
  rw [Int.toNat_of_nonneg h0]


theorem wrap_small (x : Int) (h0 : 0 ≤ x) (h1 : x ≤ 100) : wrap64 x = x := IntWalk.wrap64_in _ ⟨by omega, by omega⟩

set_option maxRecDepth 100000 in
set_option maxHeartbeats 400000 in
theorem Len32_any (x : Int) (w : World) (h0 : 0 ≤ x) (h1 : x < 4294967296) :
    Calls Tryd.prog 79 #[.int .u32 x] w fun e w' => e = .returned (.int .i64 (blen x)) ∧ w = w' := by
  by_cases c1 : 65536 ≤ x
  · have t1 : decide (65536 ≤ x) = true := by simp; omega
    have H1 := Lib.hid (blen_div x 16 (by omega))
    by_cases c2 : 256 ≤ x / 65536
    · have t2 : decide (256 ≤ x / 65536) = true := by simp; omega
      have H2 := Lib.hid (blen_div (x / 65536) 8 (by omega))
      have bb2 := blen_bd (x / 65536 / 256) (by omega)
      have hl : x / 65536 / 256 < 256 := by omega
      have hl0 : 0 ≤ x / 65536 / 256 := by omega
      go_enter Tryd.func79, Tryd.ntmps79
      go_wp2_with fail
      go_ret
      refine ⟨ret_int ?_, rfl⟩
      rw [len8_of _ (by decide +kernel) (by decide +kernel) _ hl0 hl, wrap_small (blen _) (by omega) (by omega), wrap_small _ (by omega) (by omega), H1.out]
      show _ = 16 + blen (x / 65536)
      rw [H2.out]
      show _ = 16 + (8 + blen (x / 65536 / 256))
      omega
    · have t2 : decide (256 ≤ x / 65536) = false := by simp; omega
      have bb2 := blen_bd (x / 65536) (by omega)
      have hl : x / 65536 < 256 := by omega
      have hl0 : 0 ≤ x / 65536 := by omega
      go_enter Tryd.func79, Tryd.ntmps79
      go_wp2_with fail
      go_ret
      refine ⟨ret_int ?_, rfl⟩
      rw [len8_of _ (by decide +kernel) (by decide +kernel) _ hl0 hl, wrap_small (blen _) (by omega) (by omega), wrap_small _ (by omega) (by omega), H1.out]
      rfl
  · have t1 : decide (65536 ≤ x) = false := by simp; omega
    by_cases c2 : 256 ≤ x
    · have t2 : decide (256 ≤ x) = true := by simp; omega
      have H2 := Lib.hid (blen_div x 8 (by omega))
      have bb2 := blen_bd (x / 256) (by omega)
      have hl : x / 256 < 256 := by omega
      have hl0 : 0 ≤ x / 256 := by omega
      go_enter Tryd.func79, Tryd.ntmps79
      go_wp2_with fail
      go_ret
      refine ⟨ret_int ?_, rfl⟩
      rw [len8_of _ (by decide +kernel) (by decide +kernel) _ hl0 hl, wrap_small (blen _) (by omega) (by omega), wrap_small _ (by omega) (by omega), H2.out]
      rfl
    · have t2 : decide (256 ≤ x) = false := by simp; omega
      have bb2 := blen_bd x (by omega)
      have hl : x < 256 := by omega
      go_enter Tryd.func79, Tryd.ntmps79
      go_wp2_with fail
      go_ret
      refine ⟨ret_int ?_, rfl⟩
      rw [len8_of _ (by decide +kernel) (by decide +kernel) _ h0 hl, wrap_small (blen _) (by omega) (by omega), wrap_small _ (by omega) (by omega)]

set_option maxHeartbeats 400000 in
theorem LeadingZeros32_any (x : Int) (w : World) (h0 : 0 ≤ x) (h1 : x < 4294967296) :
    Calls Tryd.prog 57 #[.int .u32 x] w fun e w' => e = .returned (.int .i64 (32 - blen x)) ∧ w = w' := by
  have bb := blen_bd x h1
  go_enter Tryd.func57, Tryd.ntmps57
  go_wp2_with (go_at_call 79; refine (Len32_any _ _ h0 h1).mono ?_; rintro e w' ⟨rfl, rfl⟩)
  go_ret
  exact ⟨rfl, rfl⟩

set_option maxHeartbeats 400000 in
theorem Len_t (m : Int) (w : World) (h0 : 0 ≤ m) (h1 : m < 4294967296) (hm : mk (32 - blen (4294967295 - m)) = m) :
    Calls Tryd.prog 15 #[.int .u32 m] w fun e w' => e = .returned (.tuple #[.int .i64 (32 - blen (4294967295 - m)), .int .i64 0]) ∧ w = w' := by
  have bb := blen_bd (4294967295 - m) (by omega)
  have t : (mk (32 - blen (4294967295 - m)) != m) = false := by simp [hm]
  have H := Lib.hid (not_eq m h0 h1)
  clear hm
  go_enter Tryd.func15, Tryd.ntmps15
  go_wp2_with fail
  go_step3
  go_wp2_with fail
  rw [H.out]
  refine (LeadingZeros32_any _ _ (by omega) (by omega)).mono ?_
  rintro e w' ⟨rfl, rfl⟩
  go_wp2_with (go_at_call 14; refine (Mask_t _ _ (by omega) (by omega)).mono ?_; rintro e w' ⟨rfl, rfl⟩)
  rw [Exit.noGoto_ret]
  go_ret2
  exact ⟨rfl, rfl⟩

set_option maxHeartbeats 400000 in
theorem Len_f (m : Int) (w : World) (h0 : 0 ≤ m) (h1 : m < 4294967296) (hm : mk (32 - blen (4294967295 - m)) ≠ m) :
    Calls Tryd.prog 15 #[.int .u32 m] w fun e w' => e = .returned (.tuple #[.int .i64 0, .int .i64 120]) ∧ w = w' := by
  have bb := blen_bd (4294967295 - m) (by omega)
  have t : (mk (32 - blen (4294967295 - m)) != m) = true := by simp [hm]
  have H := Lib.hid (not_eq m h0 h1)
  clear hm
  go_enter Tryd.func15, Tryd.ntmps15
  go_wp2_with fail
  refine wp_scope_fwd 0 rfl ?_
  go_wp2_with fail
  rw [H.out]
  refine (LeadingZeros32_any _ _ (by omega) (by omega)).mono ?_
  rintro e w' ⟨rfl, rfl⟩
  go_wp2_with (go_at_call 14; refine (Mask_t _ _ (by omega) (by omega)).mono ?_; rintro e w' ⟨rfl, rfl⟩)
  go_step3
  refine ⟨rfl, ?_⟩
  go_wp2_with fail
  rw [Exit.noGoto_ret]
  go_ret2
  exact ⟨rfl, rfl⟩
end Go.Proofs.YtmmoccceafcfkaaDoor
