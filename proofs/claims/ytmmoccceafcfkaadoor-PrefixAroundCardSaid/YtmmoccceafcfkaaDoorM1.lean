/- Plain facts on 32-bit numbers: masks, and, andNot, xor. No program in sight. -/
import Derived.Laws.BitsAllLaws
namespace Go.Proofs.YtmmoccceafcfkaaDoor

def mk (n : Int) : Int := 4294967295 * 2 ^ (32 - n).toNat % 4294967296
def andM (a n : Int) : Int := bits .and .u32 a (mk n)
def rightB (a n : Int) : Bool := decide (0 ≤ n) && decide (n ≤ 32) && (bits .andNot .u32 a (mk n) == 0)

theorem nat_mask_hi (a k : Nat) (hk : k ≤ 32) (ha : a < 2 ^ 32) : a &&& (2 ^ 32 - 2 ^ k) = a / 2 ^ k * 2 ^ k := by
  have e : 2 ^ 32 - 2 ^ k = 2 ^ k * (2 ^ (32 - k) - 1) := by
    rw [Nat.mul_sub, ← Nat.pow_add, Nat.mul_one]
    congr 2
    omega
  rw [e]
  apply Nat.eq_of_testBit_eq
  intro i
  rw [Nat.testBit_and, Nat.testBit_two_pow_mul, Nat.mul_comm (a / 2 ^ k), Nat.testBit_two_pow_mul, Nat.testBit_two_pow_sub_one, Nat.testBit_div_two_pow]
  by_cases hi : k ≤ i
  · simp only [hi, decide_true, Bool.true_and]
    rw [show i - k + k = i by omega]
    by_cases h2 : i < 32
    · simp [show i - k < 32 - k by omega]
    · have : a.testBit i = false := Nat.testBit_lt_two_pow (Nat.lt_of_lt_of_le ha (Nat.pow_le_pow_right (by omega) (by omega)))
      simp [this]
  · simp [hi]

theorem nat_not (m : Nat) (hm : m < 2 ^ 32) : 4294967295 ^^^ m = 4294967295 - m := by
  apply Nat.eq_of_testBit_eq
  intro i
  rw [show 4294967295 - m = 2 ^ 32 - (m + 1) by omega, Nat.testBit_two_pow_sub_succ hm, Nat.testBit_xor, show (4294967295 : Nat) = 2 ^ 32 - 1 by rfl, Nat.testBit_two_pow_sub_one]
  by_cases h : i < 32
  · simp [h]
  · have : m.testBit i = false := Nat.testBit_lt_two_pow (Nat.lt_of_lt_of_le hm (Nat.pow_le_pow_right (by omega) (by omega)))
    simp [h, this]

theorem not_eq (m : Int) (h0 : 0 ≤ m) (h1 : m < 4294967296) : bits .xor .u32 IntKind.u32.max m = 4294967295 - m := by
  rw [show IntKind.u32.max = 4294967295 by rfl, u32_xor _ _ (by omega) (by omega) h0 h1]
  obtain ⟨n, rfl⟩ := Int.eq_ofNat_of_zero_le h0
  have := nat_not n (by omega)
  simp only [Int.toNat_natCast]
  rw [show (4294967295 : Int).toNat = 4294967295 by rfl, this]
  omega

/-- the power of a mask -/
theorem mk_nat (n : Int) (h0 : 0 ≤ n) (h1 : n ≤ 32) : mk n = ((2 ^ 32 - 2 ^ (32 - n).toNat : Nat) : Int) := by
  have hk : (32 - n).toNat ≤ 32 := by omega
  unfold mk
  generalize (32 - n).toNat = k at hk
  have hp : (2 : Nat) ^ k ≤ 2 ^ 32 := Nat.pow_le_pow_right (by omega) hk
  have hp0 : 0 < (2 : Nat) ^ k := Nat.two_pow_pos k
  have e : (4294967295 * 2 ^ k : Int) = ((4294967295 * 2 ^ k : Nat) : Int) := by rw [Int.natCast_mul, Int.natCast_pow]; rfl
  rw [e]
  generalize (2 : Nat) ^ k = p at *
  have : (4294967296 : Nat) = 2 ^ 32 := by rfl
  omega

theorem mk_bd (n : Int) (_h0 : 0 ≤ n) (_h1 : n ≤ 32) : 0 ≤ mk n ∧ mk n < 4294967296 := by
  unfold mk; omega

theorem andM_nat (a n : Int) (h0 : 0 ≤ n) (h1 : n ≤ 32) (a0 : 0 ≤ a) (a1 : a < 4294967296) : andM a n = ((a.toNat / 2 ^ (32 - n).toNat * 2 ^ (32 - n).toNat : Nat) : Int) := by
  have hb := mk_bd n h0 h1
  unfold andM
  rw [u32_and a (mk n) a0 a1 hb.1 hb.2, mk_nat n h0 h1, Int.toNat_natCast, nat_mask_hi _ _ (by omega) (by omega)]

theorem low_nat (a n : Int) (h0 : 0 ≤ n) (h1 : n ≤ 32) (a0 : 0 ≤ a) (a1 : a < 4294967296) : bits .andNot .u32 a (mk n) = ((a.toNat % 2 ^ (32 - n).toNat : Nat) : Int) := by
  have hb := mk_bd n h0 h1
  rw [u32_andNot a (mk n) a0 a1 hb.1 hb.2, mk_nat n h0 h1, Int.toNat_natCast]
  have hp : (2 : Nat) ^ (32 - n).toNat ≤ 2 ^ 32 := Nat.pow_le_pow_right (by omega) (by omega)
  have hp0 : 0 < (2 : Nat) ^ (32 - n).toNat := Nat.two_pow_pos _
  have e : 4294967295 - (2 ^ 32 - 2 ^ (32 - n).toNat) = 2 ^ (32 - n).toNat - 1 := by
    generalize (2 : Nat) ^ (32 - n).toNat = p at *
    omega
  rw [e, Nat.and_two_pow_sub_one_eq_mod]

theorem rightB_iff (a n : Int) (a0 : 0 ≤ a) (a1 : a < 4294967296) : rightB a n = true ↔ 0 ≤ n ∧ n ≤ 32 ∧ a.toNat % 2 ^ (32 - n).toNat = 0 := by
  unfold rightB
  constructor
  · intro h
    simp only [Bool.and_eq_true, decide_eq_true_eq, beq_iff_eq] at h
    obtain ⟨⟨h0, h1⟩, h2⟩ := h
    rw [low_nat a n h0 h1 a0 a1] at h2
    exact ⟨h0, h1, by omega⟩
  · rintro ⟨h0, h1, h2⟩
    simp only [Bool.and_eq_true, decide_eq_true_eq, beq_iff_eq]
    refine ⟨⟨h0, h1⟩, ?_⟩
    rw [low_nat a n h0 h1 a0 a1, h2]
    rfl

theorem andM_bd (a n : Int) (h0 : 0 ≤ n) (h1 : n ≤ 32) (a0 : 0 ≤ a) (a1 : a < 4294967296) : 0 ≤ andM a n ∧ andM a n ≤ a := by
  rw [andM_nat a n h0 h1 a0 a1]
  have := Nat.div_mul_le_self a.toNat (2 ^ (32 - n).toNat)
  omega

theorem andM_right (a n : Int) (h0 : 0 ≤ n) (h1 : n ≤ 32) (a0 : 0 ≤ a) (a1 : a < 4294967296) : rightB (andM a n) n = true := by
  have hb := andM_bd a n h0 h1 a0 a1
  rw [rightB_iff _ _ hb.1 (by omega), andM_nat a n h0 h1 a0 a1]
  refine ⟨h0, h1, ?_⟩
  rw [Int.toNat_natCast, Nat.mul_mod_left]
end Go.Proofs.YtmmoccceafcfkaaDoor
