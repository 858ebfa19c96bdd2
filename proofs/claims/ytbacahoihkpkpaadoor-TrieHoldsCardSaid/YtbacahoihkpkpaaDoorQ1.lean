/- Plain: prefixes as lists of bits, their addresses, their order, what two have in common. No program in sight. -/
namespace Go.Proofs.YtbacahoihkpkpaaDoor

abbrev Key := List Bool

/-- the number that bits make, of m bits -/
def adr : Nat → Key → Nat
  | 0, _ => 0
  | _ + 1, [] => 0
  | m + 1, b :: k => (if b then 2 ^ m else 0) + adr m k

theorem adr_nil (m : Nat) : adr m [] = 0 := by cases m <;> rfl
theorem adr_lt (m : Nat) (k : Key) : adr m k < 2 ^ m := by
  induction m generalizing k with
  | zero => simp [adr]
  | succ m ih =>
    cases k with
    | nil => simp [adr]; exact Nat.pos_of_ne_zero (by simp)
    | cons b k =>
      have := ih k
      have e : 2 ^ (m + 1) = 2 ^ m + 2 ^ m := by rw [Nat.pow_succ]; omega
      simp only [adr]
      split <;> omega
theorem adr_append (m : Nat) (x y : Key) (h : x.length ≤ m) : adr m (x ++ y) = adr m x + adr (m - x.length) y := by
  induction m generalizing x with
  | zero =>
    have : x = [] := List.eq_nil_of_length_eq_zero (by omega)
    subst this; simp [adr]
  | succ m ih =>
    cases x with
    | nil => simp [adr]
    | cons b x =>
      simp only [List.cons_append, adr, List.length_cons] at *
      rw [ih x (by omega), show m + 1 - (x.length + 1) = m - x.length by omega]
      omega
theorem adr_inj (m : Nat) (x y : Key) (hx : x.length ≤ m) (hl : x.length = y.length) (h : adr m x = adr m y) : x = y := by
  induction m generalizing x y with
  | zero =>
    have h1 : x = [] := List.eq_nil_of_length_eq_zero (by omega)
    subst h1
    exact (List.eq_nil_of_length_eq_zero (by simp at hl; omega)).symm
  | succ m ih =>
    cases x with
    | nil => exact (List.eq_nil_of_length_eq_zero (by simp at hl; omega)).symm
    | cons b x =>
      cases y with
      | nil => simp at hl
      | cons c y =>
        simp only [adr, List.length_cons] at *
        have h1 := adr_lt m x
        have h2 := adr_lt m y
        have hb : b = c := by
          cases b <;> cases c <;> first | rfl | (simp at h; omega)
        subst hb
        rw [ih x y (by omega) (by omega) (by omega)]
theorem adr_bit (m : Nat) (k : Key) (i : Nat) : (adr m k).testBit i = (decide (i < m) && k.getD (m - 1 - i) false) := by
  induction m generalizing k with
  | zero => simp [adr]
  | succ m ih =>
    cases k with
    | nil => simp [adr]
    | cons b k =>
      have hlt := adr_lt m k
      have e : adr (m + 1) (b :: k) = 2 ^ m * (if b then 1 else 0) + adr m k := by simp only [adr]; split <;> simp
      rw [e, Nat.testBit_two_pow_mul_add _ hlt, ih]
      by_cases h1 : i < m
      · rw [if_pos h1, show m + 1 - 1 - i = (m - 1 - i) + 1 by omega]
        simp [h1, show i < m + 1 by omega]
      · rw [if_neg h1]
        by_cases h2 : i = m
        · subst h2
          cases b <;> simp
        · have h3 : ¬ i < m + 1 := by omega
          have h4 : i - m ≠ 0 := by omega
          simp only [h3, decide_false, Bool.false_and]
          have h5 : Nat.testBit 1 (i - m) = false := Nat.testBit_lt_two_pow (Nat.one_lt_two_pow h4)
          cases b
          · simp
          · simpa using h5

/-- the order of prefixes -/
def klt (x y : Key) : Prop := adr 32 x < adr 32 y ∨ adr 32 x = adr 32 y ∧ x.length < y.length
instance (x y : Key) : Decidable (klt x y) := inferInstanceAs (Decidable (_ ∨ _))
theorem klt_irrefl (x : Key) : ¬ klt x x := by unfold klt; omega
theorem klt_trans {x y z : Key} (h : klt x y) (k : klt y z) : klt x z := by unfold klt at *; omega
theorem klt_asymm {x y : Key} (h : klt x y) : ¬ klt y x := by unfold klt at *; omega
theorem klt_tri {x y : Key} (hx : x.length ≤ 32) (h1 : ¬ klt x y) (h2 : ¬ klt y x) : x = y := by
  unfold klt at *
  exact adr_inj 32 x y hx (by omega) (by omega)
theorem klt_pre {x y : Key} (hy : y.length ≤ 32) (h : x <+: y) (hne : x ≠ y) : klt x y := by
  obtain ⟨t, rfl⟩ := h
  simp only [List.length_append] at hy
  have ht : t.length ≠ 0 := fun e => hne (by rw [List.eq_nil_of_length_eq_zero e]; simp)
  unfold klt
  rw [adr_append 32 x t (by omega), List.length_append]
  omega
theorem klt_bits {k x y : Key} (hk : k.length < 32) (hx : k ++ [false] <+: x) (hy : k ++ [true] <+: y) : klt x y := by
  obtain ⟨s, rfl⟩ := hx
  obtain ⟨t, rfl⟩ := hy
  unfold klt
  left
  rw [List.append_assoc, List.append_assoc, adr_append 32 k _ (by omega), adr_append 32 k _ (by omega)]
  obtain ⟨m, hm⟩ : ∃ m, 32 - k.length = m + 1 := ⟨31 - k.length, by omega⟩
  rw [hm]
  have := adr_lt m s
  simp only [List.singleton_append, adr]
  simp
  omega

/-- what two have in common -/
def lcp : Key → Key → Key
  | a :: x, b :: y => if a = b then a :: lcp x y else []
  | _, _ => []
theorem lcp_nil_r (x : Key) : lcp x [] = [] := by cases x <;> rfl
theorem lcp_left (x y : Key) : lcp x y <+: x := by
  induction x generalizing y with
  | nil => simp [lcp]
  | cons a x ih =>
    cases y with
    | nil => simp [lcp]
    | cons b y =>
      simp only [lcp]
      split
      · rw [List.prefix_cons_inj]; exact ih y
      · exact List.nil_prefix
theorem lcp_comm (x y : Key) : lcp x y = lcp y x := by
  induction x generalizing y with
  | nil => cases y <;> rfl
  | cons a x ih =>
    cases y with
    | nil => rfl
    | cons b y =>
      simp only [lcp, ih y]
      by_cases h : a = b
      · subst h; rfl
      · rw [if_neg h, if_neg (fun e => h e.symm)]
theorem lcp_right (x y : Key) : lcp x y <+: y := by rw [lcp_comm]; exact lcp_left y x
theorem lcp_of_pre {x y : Key} (h : x <+: y) : lcp x y = x := by
  induction x generalizing y with
  | nil => cases y <;> rfl
  | cons a x ih =>
    cases y with
    | nil => simp at h
    | cons b y =>
      rw [List.cons_prefix_cons] at h
      obtain ⟨rfl, h⟩ := h
      simp only [lcp, if_true, ih h]
theorem lcp_self (x : Key) : lcp x x = x := lcp_of_pre (List.prefix_refl x)
theorem lcp_max {q x y : Key} (h1 : q <+: x) (h2 : q <+: y) : q <+: lcp x y := by
  induction q generalizing x y with
  | nil => exact List.nil_prefix
  | cons a q ih =>
    cases x with
    | nil => simp at h1
    | cons b x =>
      cases y with
      | nil => simp at h2
      | cons c y =>
        rw [List.cons_prefix_cons] at h1 h2
        obtain ⟨rfl, h1⟩ := h1
        obtain ⟨rfl, h2⟩ := h2
        simp only [lcp, if_true]
        rw [List.prefix_cons_inj]
        exact ih h1 h2
theorem lcp_split {k x y : Key} (hx : k ++ [false] <+: x) (hy : k ++ [true] <+: y) : lcp x y = k := by
  obtain ⟨s, rfl⟩ := hx
  obtain ⟨t, rfl⟩ := hy
  rw [List.append_assoc, List.append_assoc]
  induction k with
  | nil => simp [lcp]
  | cons a k ih =>
    show (if a = a then a :: lcp (k ++ ([false] ++ s)) (k ++ ([true] ++ t)) else []) = _
    rw [if_pos rfl, ih]

/-- the bit behind a prefix of another one -/
theorem pre_bit {k p : Key} (h : k <+: p) (hne : k ≠ p) : k ++ [p.getD k.length false] <+: p ∧ k.length < p.length := by
  obtain ⟨t, rfl⟩ := h
  cases t with
  | nil => simp at hne
  | cons b t =>
    refine ⟨⟨t, by simp⟩, by simp⟩
/-- two that part: the bits behind what they have in common -/
theorem lcp_part {k p : Key} (h1 : lcp k p ≠ k) (h2 : lcp k p ≠ p) : p.getD (lcp k p).length false = !(k.getD (lcp k p).length false) := by
  induction k generalizing p with
  | nil => simp [lcp] at h1
  | cons a k ih =>
    cases p with
    | nil => simp [lcp] at h2
    | cons b p =>
      by_cases hab : a = b
      · subst hab
        simp only [lcp, if_true] at h1 h2 ⊢
        have := ih (p := p) (fun e => h1 (by rw [e])) (fun e => h2 (by rw [e]))
        simpa using this
      · simp only [lcp, if_neg hab]
        cases a <;> cases b <;> simp at hab ⊢
theorem pre_bits_ne {k p x : Key} {b : Bool} (hx : k ++ [b] <+: x) (hp : k ++ [!b] <+: p) : ¬ x <+: p := by
  intro h
  have h1 := hx.trans h
  have h2 := List.prefix_of_prefix_length_le h1 hp (by simp)
  have h3 := h2.eq_of_length (by simp)
  have h4 := List.append_cancel_left h3
  cases b <;> simp at h4
theorem not_pre_short {k x : Key} {b : Bool} (hx : k ++ [b] <+: x) : ¬ x <+: k := by
  intro h
  have := (hx.trans h).length_le
  simp at this
  omega
end Go.Proofs.YtbacahoihkpkpaaDoor
