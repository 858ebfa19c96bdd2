/- Merged: M1 M7. -/
import Derived.Laws.BitsAllLaws
/- Plain facts on 32-bit numbers: masks, and, andNot, xor. No program in sight. -/
namespace Go.Proofs.YtbacahoihkpkpaaDoor

def mk (n : Int) : Int := 4294967295 * 2 ^ (32 - n).toNat % 4294967296
def andM (a n : Int) : Int := bits .and .u32 a (mk n)
def rightB (a n : Int) : Bool := decide (0 ≤ n) && decide (n ≤ 32) && (bits .andNot .u32 a (mk n) == 0)

theorem nat_mask_hi (a k : Nat) (hk : k ≤ 32) (ha : a < 2 ^ 32) : a &&& (2 ^ 32 - 2 ^ k) = a / 2 ^ k * 2 ^ k := by
  have e : 2 ^ 32 - 2 ^ k = 2 ^ k * (2 ^ (32 - k) - 1) := by
    rw [Nat.mul_sub, ← Nat.pow_add, Nat.mul_one]
    congr 2
    omega
  rw [e]
  apply Nat.eq_of_testBit_eq
  intro i
  rw [Nat.testBit_and, Nat.testBit_two_pow_mul, Nat.mul_comm (a / 2 ^ k), Nat.testBit_two_pow_mul, Nat.testBit_two_pow_sub_one, Nat.testBit_div_two_pow]
  by_cases hi : k ≤ i
  · simp only [hi, decide_true, Bool.true_and]
    rw [show i - k + k = i by omega]
    by_cases h2 : i < 32
    · simp [show i - k < 32 - k by omega]
    · have : a.testBit i = false := Nat.testBit_lt_two_pow (Nat.lt_of_lt_of_le ha (Nat.pow_le_pow_right (by omega) (by omega)))
      simp [this]
  · simp [hi]

theorem nat_not (m : Nat) (hm : m < 2 ^ 32) : 4294967295 ^^^ m = 4294967295 - m := by
  apply Nat.eq_of_testBit_eq
  intro i
  rw [show 4294967295 - m = 2 ^ 32 - (m + 1) by omega, Nat.testBit_two_pow_sub_succ hm, Nat.testBit_xor, show (4294967295 : Nat) = 2 ^ 32 - 1 by rfl, Nat.testBit_two_pow_sub_one]
  by_cases h : i < 32
  · simp [h]
  · have : m.testBit i = false := Nat.testBit_lt_two_pow (Nat.lt_of_lt_of_le hm (Nat.pow_le_pow_right (by omega) (by omega)))
    simp [h, this]

theorem not_eq (m : Int) (h0 : 0 ≤ m) (h1 : m < 4294967296) : bits .xor .u32 IntKind.u32.max m = 4294967295 - m := by
  rw [show IntKind.u32.max = 4294967295 by rfl, u32_xor _ _ (by omega) (by omega) h0 h1]
  obtain ⟨n, rfl⟩ := Int.eq_ofNat_of_zero_le h0
  have := nat_not n (by omega)
  simp only [Int.toNat_natCast]
  rw [show (4294967295 : Int).toNat = 4294967295 by rfl, this]
  omega

/-- the power of a mask -/
theorem mk_nat (n : Int) (h0 : 0 ≤ n) (h1 : n ≤ 32) : mk n = ((2 ^ 32 - 2 ^ (32 - n).toNat : Nat) : Int) := by
  have hk : (32 - n).toNat ≤ 32 := by omega
  unfold mk
  generalize (32 - n).toNat = k at hk
  have hp : (2 : Nat) ^ k ≤ 2 ^ 32 := Nat.pow_le_pow_right (by omega) hk
  have hp0 : 0 < (2 : Nat) ^ k := Nat.two_pow_pos k
  have e : (4294967295 * 2 ^ k : Int) = ((4294967295 * 2 ^ k : Nat) : Int) := by rw [Int.natCast_mul, Int.natCast_pow]; rfl
  rw [e]
  generalize (2 : Nat) ^ k = p at *
  have : (4294967296 : Nat) = 2 ^ 32 := by rfl
  omega

theorem mk_bd (n : Int) (_h0 : 0 ≤ n) (_h1 : n ≤ 32) : 0 ≤ mk n ∧ mk n < 4294967296 := by
  unfold mk; omega

theorem andM_nat (a n : Int) (h0 : 0 ≤ n) (h1 : n ≤ 32) (a0 : 0 ≤ a) (a1 : a < 4294967296) : andM a n = ((a.toNat / 2 ^ (32 - n).toNat * 2 ^ (32 - n).toNat : Nat) : Int) := by
  have hb := mk_bd n h0 h1
  unfold andM
  rw [u32_and a (mk n) a0 a1 hb.1 hb.2, mk_nat n h0 h1, Int.toNat_natCast, nat_mask_hi _ _ (by omega) (by omega)]

theorem low_nat (a n : Int) (h0 : 0 ≤ n) (h1 : n ≤ 32) (a0 : 0 ≤ a) (a1 : a < 4294967296) : bits .andNot .u32 a (mk n) = ((a.toNat % 2 ^ (32 - n).toNat : Nat) : Int) := by
  have hb := mk_bd n h0 h1
  rw [u32_andNot a (mk n) a0 a1 hb.1 hb.2, mk_nat n h0 h1, Int.toNat_natCast]
  have hp : (2 : Nat) ^ (32 - n).toNat ≤ 2 ^ 32 := Nat.pow_le_pow_right (by omega) (by omega)
  have hp0 : 0 < (2 : Nat) ^ (32 - n).toNat := Nat.two_pow_pos _
  have e : 4294967295 - (2 ^ 32 - 2 ^ (32 - n).toNat) = 2 ^ (32 - n).toNat - 1 := by
    generalize (2 : Nat) ^ (32 - n).toNat = p at *
    omega
  rw [e, Nat.and_two_pow_sub_one_eq_mod]

theorem rightB_iff (a n : Int) (a0 : 0 ≤ a) (a1 : a < 4294967296) : rightB a n = true ↔ 0 ≤ n ∧ n ≤ 32 ∧ a.toNat % 2 ^ (32 - n).toNat = 0 := by
  unfold rightB
  constructor
  · intro h
    simp only [Bool.and_eq_true, decide_eq_true_eq, beq_iff_eq] at h
    obtain ⟨⟨h0, h1⟩, h2⟩ := h
    rw [low_nat a n h0 h1 a0 a1] at h2
    exact ⟨h0, h1, by omega⟩
  · rintro ⟨h0, h1, h2⟩
    simp only [Bool.and_eq_true, decide_eq_true_eq, beq_iff_eq]
    refine ⟨⟨h0, h1⟩, ?_⟩
    rw [low_nat a n h0 h1 a0 a1, h2]
    rfl

theorem andM_bd (a n : Int) (h0 : 0 ≤ n) (h1 : n ≤ 32) (a0 : 0 ≤ a) (a1 : a < 4294967296) : 0 ≤ andM a n ∧ andM a n ≤ a := by
  rw [andM_nat a n h0 h1 a0 a1]
  have := Nat.div_mul_le_self a.toNat (2 ^ (32 - n).toNat)
  omega

theorem andM_right (a n : Int) (h0 : 0 ≤ n) (h1 : n ≤ 32) (a0 : 0 ≤ a) (a1 : a < 4294967296) : rightB (andM a n) n = true := by
  have hb := andM_bd a n h0 h1 a0 a1
  rw [rightB_iff _ _ hb.1 (by omega), andM_nat a n h0 h1 a0 a1]
  refine ⟨h0, h1, ?_⟩
  rw [Int.toNat_natCast, Nat.mul_mod_left]
end Go.Proofs.YtbacahoihkpkpaaDoor
/- Plain facts on prefixes bit by bit, and how two prefixes stand. No program in sight. -/
namespace Go.Proofs.YtbacahoihkpkpaaDoor

theorem mod_two_pow_zero_iff (x k : Nat) : x % 2 ^ k = 0 ↔ ∀ i, i < k → x.testBit i = false := by
  constructor
  · intro h i hi
    have := Nat.testBit_mod_two_pow x k i
    rw [h] at this
    simpa [hi] using this.symm
  · intro h
    apply Nat.eq_of_testBit_eq
    intro i
    rw [Nat.testBit_mod_two_pow]
    by_cases hi : i < k
    · simp [h i hi]
    · simp [hi]

theorem div_two_pow_eq_iff (x y k : Nat) : x / 2 ^ k = y / 2 ^ k ↔ ∀ i, k ≤ i → x.testBit i = y.testBit i := by
  constructor
  · intro h i hi
    have h1 := Nat.testBit_div_two_pow x (n := k) (i - k)
    have h2 := Nat.testBit_div_two_pow y (n := k) (i - k)
    rw [h, h2] at h1
    rw [show i - k + k = i by omega] at h1
    exact h1.symm
  · intro h
    apply Nat.eq_of_testBit_eq
    intro i
    rw [Nat.testBit_div_two_pow, Nat.testBit_div_two_pow]
    exact h _ (by omega)

/-- the i-th bit from the left -/
def bitB (a : Int) (i : Nat) : Bool := a.toNat.testBit (31 - i)

theorem right_bits (a n : Int) (a0 : 0 ≤ a) (a1 : a < 4294967296) (h0 : 0 ≤ n) (h1 : n ≤ 32) : rightB a n = true ↔ ∀ j : Nat, n ≤ j → j < 32 → bitB a j = false := by
  rw [rightB_iff a n a0 a1]
  rw [mod_two_pow_zero_iff]
  constructor
  · rintro ⟨_, _, h⟩ j hj hj2
    exact h (31 - j) (by omega)
  · intro h
    refine ⟨h0, h1, fun i hi => ?_⟩
    have := h (31 - i) (by omega) (by omega)
    unfold bitB at this
    rwa [show 31 - (31 - i) = i by omega] at this

theorem andM_toNat (a n : Int) (h0 : 0 ≤ n) (h1 : n ≤ 32) (a0 : 0 ≤ a) (a1 : a < 4294967296) : (andM a n).toNat = a.toNat / 2 ^ (32 - n).toNat * 2 ^ (32 - n).toNat := by
  rw [andM_nat a n h0 h1 a0 a1, Int.toNat_natCast]

theorem andM_eq_iff (a b n : Int) (h0 : 0 ≤ n) (h1 : n ≤ 32) (a0 : 0 ≤ a) (a1 : a < 4294967296) (b0 : 0 ≤ b) (b1 : b < 4294967296) :
    andM a n = andM b n ↔ a.toNat / 2 ^ (32 - n).toNat = b.toNat / 2 ^ (32 - n).toNat := by
  rw [andM_nat a n h0 h1 a0 a1, andM_nat b n h0 h1 b0 b1]
  have hp : 0 < 2 ^ (32 - n).toNat := Nat.two_pow_pos _
  constructor
  · intro h
    exact Nat.eq_of_mul_eq_mul_right hp (by omega)
  · intro h
    rw [h]

theorem and_bits (a b n : Int) (h0 : 0 ≤ n) (h1 : n ≤ 32) (a0 : 0 ≤ a) (a1 : a < 4294967296) (b0 : 0 ≤ b) (b1 : b < 4294967296) :
    andM a n = andM b n ↔ ∀ j : Nat, j < n → bitB a j = bitB b j := by
  rw [andM_eq_iff a b n h0 h1 a0 a1 b0 b1, div_two_pow_eq_iff]
  constructor
  · intro h j hj
    exact h (31 - j) (by omega)
  · intro h i hi
    by_cases h32 : i < 32
    · have := h (31 - i) (by omega)
      unfold bitB at this
      rwa [show 31 - (31 - i) = i by omega] at this
    · have e1 : a.toNat.testBit i = false := Nat.testBit_lt_two_pow (Nat.lt_of_lt_of_le (show a.toNat < 2 ^ 32 by omega) (Nat.pow_le_pow_right (by omega) (by omega)))
      have e2 : b.toNat.testBit i = false := Nat.testBit_lt_two_pow (Nat.lt_of_lt_of_le (show b.toNat < 2 ^ 32 by omega) (Nat.pow_le_pow_right (by omega) (by omega)))
      rw [e1, e2]

/-- a prefix that may be is what its own mask leaves of it -/
theorem andM_self (a n : Int) (a0 : 0 ≤ a) (a1 : a < 4294967296) (h : rightB a n = true) : andM a n = a := by
  obtain ⟨h0, h1, h2⟩ := (rightB_iff a n a0 a1).1 h
  rw [andM_nat a n h0 h1 a0 a1]
  have := Nat.div_add_mod a.toNat (2 ^ (32 - n).toNat)
  rw [h2, Nat.mul_comm] at this
  omega

theorem has_bits (p a n : Int) (p0 : 0 ≤ p) (p1 : p < 4294967296) (a0 : 0 ≤ a) (a1 : a < 4294967296) (h : rightB p n = true) :
    andM a n = p ↔ ∀ j : Nat, j < n → bitB p j = bitB a j := by
  obtain ⟨h0, h1, _⟩ := (rightB_iff p n p0 p1).1 h
  rw [← and_bits p a n h0 h1 p0 p1 a0 a1, andM_self p n p0 p1 h]
  exact ⟨fun h => h.symm, fun h => h.symm⟩

/-- a shorter mask of a longer one's is its own -/
theorem andM_andM (a m n : Int) (m0 : 0 ≤ m) (h : m ≤ n) (h1 : n ≤ 32) (a0 : 0 ≤ a) (a1 : a < 4294967296) : andM (andM a n) m = andM a m := by
  have hb := andM_bd a n (by omega) h1 a0 a1
  rw [andM_eq_iff (andM a n) a m m0 (by omega) hb.1 (by omega) a0 a1, andM_toNat a n (by omega) h1 a0 a1]
  have e : (32 - m).toNat = (32 - n).toNat + (n - m).toNat := by omega
  rw [e, Nat.pow_add, ← Nat.div_div_eq_div_mul, ← Nat.div_div_eq_div_mul, Nat.mul_div_cancel _ (Nat.two_pow_pos _)]

theorem andM_mono (a b n : Int) (h0 : 0 ≤ n) (h1 : n ≤ 32) (a0 : 0 ≤ a) (b1 : b < 4294967296) (h : a ≤ b) : andM a n ≤ andM b n := by
  rw [andM_nat a n h0 h1 a0 (by omega), andM_nat b n h0 h1 (by omega) b1]
  have : a.toNat / 2 ^ (32 - n).toNat ≤ b.toNat / 2 ^ (32 - n).toNat := Nat.div_le_div_right (by omega)
  have := Nat.mul_le_mul_right (2 ^ (32 - n).toNat) this
  omega

/-- a prefix of a longer mask that may be at a shorter one -/
theorem right_longer (a m n : Int) (a0 : 0 ≤ a) (a1 : a < 4294967296) (h : rightB a m = true) (hm : m ≤ n) (h1 : n ≤ 32) : rightB a n = true := by
  obtain ⟨m0, m1, _⟩ := (rightB_iff a m a0 a1).1 h
  rw [right_bits a m a0 a1 m0 m1] at h
  rw [right_bits a n a0 a1 (by omega) h1]
  exact fun j hj hj2 => h j (by omega) hj2
end Go.Proofs.YtbacahoihkpkpaaDoor
