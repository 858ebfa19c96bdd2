/- Plain facts: how two prefixes stand, bit by bit; their order; the stage's theorem of layer 2. -/
import Derived.Test.YtmmoccceafcfkaaDoorA5
import Derived.Test.YtmmoccceafcfkaaDoorM7
namespace Go.Proofs.YtmmoccceafcfkaaDoor

theorem bitI_bitB (a : Int) (i : Nat) (a0 : 0 ≤ a) (hi : i < 32) : bitI a i = if bitB a i = true then 1 else 0 := by
  unfold bitI bitB
  rw [if_neg (by omega), show (31 - (i : Int)).toNat = 31 - i by omega]
  obtain ⟨n, rfl⟩ := Int.eq_ofNat_of_zero_le a0
  rw [Int.toNat_natCast, Nat.testBit_eq_decide_div_mod_eq]
  have e : (n : Int) / 2 ^ (31 - i) = ((n / 2 ^ (31 - i) : Nat) : Int) := by norm_cast
  rw [e]
  generalize n / 2 ^ (31 - i) = x
  by_cases h : x % 2 = 1
  · simp [h]; omega
  · simp [h]; omega

theorem bitI_eq_iff (a b : Int) (i : Nat) (a0 : 0 ≤ a) (b0 : 0 ≤ b) (hi : i < 32) : bitI a i = bitI b i ↔ bitB a i = bitB b i := by
  rw [bitI_bitB a i a0 hi, bitI_bitB b i b0 hi]
  cases bitB a i <;> cases bitB b i <;> simp
theorem bitI_zero_iff (a : Int) (i : Nat) (a0 : 0 ≤ a) (hi : i < 32) : bitI a i = 0 ↔ bitB a i = false := by
  rw [bitI_bitB a i a0 hi]
  cases bitB a i <;> simp
theorem bitI_01 (a : Int) (i : Int) : 0 ≤ bitI a i ∧ bitI a i ≤ 1 := by
  unfold bitI
  split
  · omega
  · generalize a / 2 ^ (31 - i).toNat = x at *; omega

theorem holdsB_iff (pa pn qa qn : Int) : holdsB pa pn qa qn = true ↔ pn ≤ qn ∧ andM qa pn = pa := by
  unfold holdsB
  simp

theorem holdsB_self (a n : Int) (a0 : 0 ≤ a) (a1 : a < 4294967296) (h : rightB a n = true) : holdsB a n a n = true := by
  rw [holdsB_iff]; exact ⟨Int.le_refl _, andM_self a n a0 a1 h⟩

/-- each in the other: they are the same -/
theorem holds_same (pa pn qa qn : Int) (q0 : 0 ≤ qa) (q1 : qa < 4294967296) (hq : rightB qa qn = true) (h1 : holdsB pa pn qa qn = true) (h2 : holdsB qa qn pa pn = true) : pa = qa ∧ pn = qn := by
  rw [holdsB_iff] at h1 h2
  have e : pn = qn := by omega
  subst e
  exact ⟨by rw [← h1.2, andM_self qa pn q0 q1 hq], rfl⟩

/-- the relation's number -/
theorem relOf_1 (x y : Bool) : relOf x y = 1 ↔ x = true ∧ y = true := by cases x <;> cases y <;> simp [relOf]
theorem relOf_2 (x y : Bool) : relOf x y = 2 ↔ x = false ∧ y = true := by cases x <;> cases y <;> simp [relOf]
theorem relOf_3 (x y : Bool) : relOf x y = 3 ↔ x = true ∧ y = false := by cases x <;> cases y <;> simp [relOf]
theorem relOf_4 (x y : Bool) : relOf x y = 4 ↔ x = false ∧ y = false := by cases x <;> cases y <;> simp [relOf]

/-- what the document tells of two prefixes that may be -/
def standI (pa pn qa qn : Int) : Int := if pa = qa ∧ pn = qn then 1 else if qn ≤ pn ∧ andM pa qn = qa then 2 else if pn ≤ qn ∧ andM qa pn = pa then 3 else 4

theorem stand_rel (pa pn qa qn : Int) (p0 : 0 ≤ pa) (p1 : pa < 4294967296) (q0 : 0 ≤ qa) (q1 : qa < 4294967296) (hp : rightB pa pn = true) (hq : rightB qa qn = true) :
    relOf (holdsB pa pn qa qn) (holdsB qa qn pa pn) = standI pa pn qa qn := by
  unfold standI
  by_cases h : pa = qa ∧ pn = qn
  · obtain ⟨rfl, rfl⟩ := h
    rw [if_pos ⟨rfl, rfl⟩, holdsB_self pa pn p0 p1 hp]
    rfl
  · rw [if_neg h]
    by_cases h2 : qn ≤ pn ∧ andM pa qn = qa
    · rw [if_pos h2, (holdsB_iff qa qn pa pn).2 h2]
      cases h1 : holdsB pa pn qa qn with
      | false => rfl
      | true => exact absurd (holds_same pa pn qa qn q0 q1 hq h1 ((holdsB_iff qa qn pa pn).2 h2)) h
    · rw [if_neg h2]
      have e2 : holdsB qa qn pa pn = false := by
        rw [← Bool.not_eq_true, holdsB_iff]; exact h2
      rw [e2]
      by_cases h3 : pn ≤ qn ∧ andM qa pn = pa
      · rw [if_pos h3, (holdsB_iff pa pn qa qn).2 h3]; rfl
      · rw [if_neg h3]
        have e3 : holdsB pa pn qa qn = false := by
          rw [← Bool.not_eq_true, holdsB_iff]; exact h3
        rw [e3]; rfl

/-- the document's order -/
def ordR (pa pn qa qn : Int) : Int := if pa = qa ∧ pn = qn then 0 else if pa < qa ∨ pa = qa ∧ pn < qn then -1 else 1
theorem ord_eq (pa pn qa qn : Int) : ordI pa pn qa qn = ordR pa pn qa qn := by
  unfold ordI ordR orI cmpI
  repeat' split
  all_goals omega
theorem ord_neg (pa pn qa qn : Int) : ordI pa pn qa qn < 0 ↔ pa < qa ∨ pa = qa ∧ pn < qn := by
  rw [ord_eq]; unfold ordR
  repeat' split
  all_goals omega

/-- what two prefixes have in common: so far the bits are the same -/
theorem holds_upto (pa qa qn : Int) (j : Int) (j0 : 0 ≤ j) (j1 : j ≤ 32) (p0 : 0 ≤ pa) (p1 : pa < 4294967296) (q0 : 0 ≤ qa) (q1 : qa < 4294967296) :
    holdsB (andM pa j) j qa qn = true ↔ j ≤ qn ∧ ∀ i : Nat, i < j → bitB pa i = bitB qa i := by
  rw [holdsB_iff, ← and_bits pa qa j j0 j1 p0 p1 q0 q1]
  exact ⟨fun h => ⟨h.1, h.2.symm⟩, fun h => ⟨h.1, h.2.symm⟩⟩

theorem common_eq (pa pn qa qn : Int) (k n : Nat) (p0 : 0 ≤ pa) (p1 : pa < 4294967296) (q0 : 0 ≤ qa) (q1 : qa < 4294967296) (hp : pn ≤ 32) (hk : (k : Int) ≤ pn)
    (h0 : 0 ≤ qn) (h1 : ∀ j : Nat, 1 ≤ j → j ≤ k → holdsB (andM pa j) j qa qn = true) (h2 : (k : Int) = pn ∨ holdsB (andM pa ((k + 1 : Nat) : Int)) ((k + 1 : Nat) : Int) qa qn = false)
    (n1 : (n : Int) ≤ pn) (n2 : (n : Int) ≤ qn) (n3 : ∀ i : Nat, i < n → bitB pa i = bitB qa i) (n4 : (n : Int) = pn ∨ (n : Int) = qn ∨ bitB pa n ≠ bitB qa n) : k = n := by
  have hkb : (k : Int) ≤ qn ∧ ∀ i : Nat, i < k → bitB pa i = bitB qa i := by
    by_cases hz : k = 0
    · subst hz; exact ⟨by omega, fun i hi => by omega⟩
    · have := (holds_upto pa qa qn k (by omega) (by omega) p0 p1 q0 q1).1 (h1 k (by omega) (by omega))
      exact ⟨this.1, fun i hi => this.2 i (by omega)⟩
  rcases Nat.lt_trichotomy k n with h | h | h
  · exfalso
    rcases h2 with h2 | h2
    · omega
    · rw [← Bool.not_eq_true, holds_upto pa qa qn _ (by omega) (by omega) p0 p1 q0 q1] at h2
      exact h2 ⟨by omega, fun i hi => n3 i (by omega)⟩
  · exact h
  · exfalso
    rcases n4 with h4 | h4 | h4
    · omega
    · omega
    · exact h4 (hkb.2 n h)

/-- of r within p, what stands between them is within p -/
theorem between_within (pa pn qa qn ra rn : Int) (p0 : 0 ≤ pa) (p1 : pa < 4294967296) (q0 : 0 ≤ qa) (q1 : qa < 4294967296) (r1 : ra < 4294967296)
    (hp : rightB pa pn = true) (hq : rightB qa qn = true) (o1 : ordI pa pn qa qn < 0) (o2 : ordI qa qn ra rn < 0) (hu : relOf (holdsB ra rn pa pn) (holdsB pa pn ra rn) = 2) :
    relOf (holdsB qa qn pa pn) (holdsB pa pn qa qn) = 2 := by
  rw [relOf_2] at hu ⊢
  rw [ord_neg] at o1 o2
  have lp := rightB_len hp
  have lq := rightB_len hq
  have hr := (holdsB_iff pa pn ra rn).1 hu.2
  have m1 := andM_mono pa qa pn lp.1 lp.2 p0 q1 (by omega)
  have m2 := andM_mono qa ra pn lp.1 lp.2 q0 r1 (by omega)
  rw [andM_self pa pn p0 p1 hp] at m1
  have e : andM qa pn = pa := by omega
  have hlen : pn < qn := by
    by_cases hc : pn < qn
    · exact hc
    · exfalso
      have hq2 := right_longer qa qn pn q0 q1 hq (by omega) lp.2
      rw [andM_self qa pn q0 q1 hq2] at e
      omega
  refine ⟨?_, (holdsB_iff pa pn qa qn).2 ⟨by omega, e⟩⟩
  rw [← Bool.not_eq_true, holdsB_iff]
  intro h; omega

theorem within_ahead (pa pn qa qn : Int) (p0 : 0 ≤ pa) (p1 : pa < 4294967296) (hp : rightB pa pn = true) (hq : rightB qa qn = true) (h : relOf (holdsB pa pn qa qn) (holdsB qa qn pa pn) = 2) : ordI qa qn pa pn < 0 := by
  rw [relOf_2] at h
  have h2 := (holdsB_iff qa qn pa pn).1 h.2
  have lq := rightB_len hq
  have hb := andM_bd pa qn lq.1 lq.2 p0 p1
  rw [h2.2] at hb
  rw [ord_neg]
  by_cases he : qa = pa
  · right
    refine ⟨he, ?_⟩
    by_cases hl : qn < pn
    · exact hl
    · exfalso
      have : qn = pn := by omega
      subst he; subst this
      rw [holdsB_self qa qn p0 p1 hp] at h
      exact Bool.noConfusion h.1
  · left; omega

/-- an address in both -/
theorem both_meet (pa pn qa qn a : Int) (a0 : 0 ≤ a) (a1 : a < 4294967296) (hp : rightB pa pn = true) (hq : rightB qa qn = true) (i1 : andM a pn = pa) (i2 : andM a qn = qa) : holdsB pa pn qa qn = true ∨ holdsB qa qn pa pn = true := by
  have lp := rightB_len hp
  have lq := rightB_len hq
  rcases Int.le_total pn qn with h | h
  · left
    rw [holdsB_iff]
    exact ⟨h, by rw [← i2, andM_andM a pn qn lp.1 h lq.2 a0 a1, i1]⟩
  · right
    rw [holdsB_iff]
    exact ⟨h, by rw [← i1, andM_andM a qn pn lq.1 h lp.2 a0 a1, i2]⟩
/-- what is in the inner one is in the outer one -/
theorem in_outer (pa pn qa qn a : Int) (a0 : 0 ≤ a) (a1 : a < 4294967296) (hp : rightB pa pn = true) (hq : rightB qa qn = true) (h : holdsB pa pn qa qn = true) (i2 : andM a qn = qa) : andM a pn = pa := by
  have lp := rightB_len hp
  have lq := rightB_len hq
  obtain ⟨h1, h2⟩ := (holdsB_iff pa pn qa qn).1 h
  rw [← h2, ← i2, andM_andM a pn qn lp.1 h1 lq.2 a0 a1]
end Go.Proofs.YtmmoccceafcfkaaDoor
