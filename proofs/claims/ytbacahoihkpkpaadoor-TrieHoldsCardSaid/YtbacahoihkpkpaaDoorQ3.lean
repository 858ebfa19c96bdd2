/- Plain: a prefix that may be is a list of bits; how the program's numbers of prefixes read on lists of bits. No program in sight. -/
import Derived.Test.YtbacahoihkpkpaaDoorQ4
import Derived.Test.YtbacahoihkpkpaaDoorM8
namespace Go.Proofs.YtbacahoihkpkpaaDoor

/-- a key's address -/
def ka (k : Key) : Int := (adr 32 k : Nat)
theorem ka_bd (k : Key) : 0 ≤ ka k ∧ ka k < 4294967296 := by
  have := adr_lt 32 k
  unfold ka
  omega
theorem ka_0 (k : Key) : 0 ≤ ka k := (ka_bd k).1
theorem ka_1 (k : Key) : ka k < 4294967296 := (ka_bd k).2
theorem ka_bit (k : Key) (j : Nat) (hj : j < 32) : bitB (ka k) j = k.getD j false := by
  unfold bitB ka
  rw [Int.toNat_natCast, adr_bit]
  simp [show 31 - j < 32 by omega, show 31 - (31 - j) = j by omega]
theorem ka_right {k : Key} (h : k.length ≤ 32) : rightB (ka k) k.length = true := by
  rw [right_bits _ _ (ka_0 k) (ka_1 k) (by omega) (by omega)]
  intro j hj hj2
  rw [ka_bit k j hj2]
  simp [List.getD_eq_getElem?_getD, List.getElem?_eq_none (show k.length ≤ j by omega)]
/-- the bits of a prefix -/
def bs (a n : Int) : Key := (List.range n.toNat).map (bitB a)
theorem bs_len (a n : Int) : (bs a n).length = n.toNat := by simp [bs]
theorem bs_get (a n : Int) (j : Nat) : (bs a n).getD j false = if (j : Int) < n then bitB a j else false := by
  unfold bs
  rw [List.getD_eq_getElem?_getD, List.getElem?_map]
  by_cases h : (j : Int) < n
  · rw [if_pos h, List.getElem?_range (by omega)]; rfl
  · rw [if_neg h, List.getElem?_eq_none (by simp; omega)]; rfl
theorem ka_bs {a n : Int} (a0 : 0 ≤ a) (a1 : a < 4294967296) (h : rightB a n = true) : ka (bs a n) = a ∧ ((bs a n).length : Int) = n ∧ (bs a n).length ≤ 32 := by
  obtain ⟨h0, h1, _⟩ := (rightB_iff a n a0 a1).1 h
  have hr := (right_bits a n a0 a1 h0 h1).1 h
  refine ⟨?_, by rw [bs_len]; omega, by rw [bs_len]; omega⟩
  have : (ka (bs a n)).toNat = a.toNat := by
    apply Nat.eq_of_testBit_eq
    intro i
    by_cases hi : i < 32
    · have e1 := ka_bit (bs a n) (31 - i) (by omega)
      unfold bitB at e1
      rw [show 31 - (31 - i) = i by omega, bs_get] at e1
      rw [e1]
      split
      · unfold bitB; rw [show 31 - (31 - i) = i by omega]
      · have := hr (31 - i) (by omega) (by omega)
        unfold bitB at this
        rw [show 31 - (31 - i) = i by omega] at this
        exact this.symm
    · have b1 := ka_1 (bs a n)
      have b0 := ka_0 (bs a n)
      rw [Nat.testBit_lt_two_pow (Nat.lt_of_lt_of_le (show (ka (bs a n)).toNat < 2 ^ 32 by omega) (Nat.pow_le_pow_right (by omega) (by omega))), Nat.testBit_lt_two_pow (Nat.lt_of_lt_of_le (show a.toNat < 2 ^ 32 by omega) (Nat.pow_le_pow_right (by omega) (by omega)))]
  have := ka_0 (bs a n)
  omega
/-- a prefix that may be has a key -/
theorem key_of {a n : Int} (a0 : 0 ≤ a) (a1 : a < 4294967296) (h : rightB a n = true) : ∃ k : Key, k.length ≤ 32 ∧ a = ka k ∧ n = k.length :=
  ⟨bs a n, (ka_bs a0 a1 h).2.2, (ka_bs a0 a1 h).1.symm, (ka_bs a0 a1 h).2.1.symm⟩
theorem ka_inj {x y : Key} (hx : x.length ≤ 32) (h1 : ka x = ka y) (h2 : (x.length : Int) = y.length) : x = y :=
  adr_inj 32 x y hx (by omega) (by unfold ka at h1; omega)
theorem ka_inj_iff {x y : Key} (hx : x.length ≤ 32) : (ka x = ka y ∧ (x.length : Int) = y.length) ↔ x = y :=
  ⟨fun h => ka_inj hx h.1 h.2, fun h => by rw [h]; exact ⟨rfl, rfl⟩⟩
theorem pre_get {x y : Key} : x <+: y ↔ x.length ≤ y.length ∧ ∀ j, j < x.length → x.getD j false = y.getD j false := by
  constructor
  · rintro ⟨t, rfl⟩
    refine ⟨by simp, fun j hj => ?_⟩
    simp [List.getD_eq_getElem?_getD, List.getElem?_append_left hj]
  · rintro ⟨hl, h⟩
    rw [List.prefix_iff_eq_take]
    refine List.ext_getElem? fun j => ?_
    by_cases hj : j < x.length
    · have := h j hj
      rw [List.getD_eq_getElem?_getD, List.getD_eq_getElem?_getD, List.getElem?_eq_getElem hj, List.getElem?_eq_getElem (by omega : j < y.length)] at this
      rw [List.getElem?_take_of_lt hj, List.getElem?_eq_getElem hj, List.getElem?_eq_getElem (by omega : j < y.length)]
      simpa using this
    · rw [List.getElem?_eq_none (by omega), List.getElem?_eq_none (by rw [List.length_take]; omega)]
theorem ka_holds {x y : Key} (hx : x.length ≤ 32) : holdsB (ka x) x.length (ka y) y.length = decide (x <+: y) := by
  rw [Bool.eq_iff_iff, holdsB_iff, has_bits (ka x) (ka y) x.length (ka_0 x) (ka_1 x) (ka_0 y) (ka_1 y) (ka_right hx), decide_eq_true_iff, pre_get]
  constructor
  · rintro ⟨h1, h2⟩
    refine ⟨by omega, fun j hj => ?_⟩
    rw [← ka_bit x j (by omega), ← ka_bit y j (by omega)]
    exact h2 j (by omega)
  · rintro ⟨h1, h2⟩
    refine ⟨by omega, fun j hj => ?_⟩
    rw [ka_bit x j (by omega), ka_bit y j (by omega)]
    exact h2 j (by omega)
theorem ka_bitI {x : Key} {j : Nat} (hj : j < 32) : bitI (ka x) j = if x.getD j false then 1 else 0 := by
  rw [bitI_bitB _ _ (ka_0 x) hj, ka_bit x j hj]
theorem ka_bitI32 (x : Key) : bitI (ka x) 32 = 0 := by unfold bitI; rw [if_pos (by omega)]
theorem ka_ord (x y : Key) : ordI (ka x) x.length (ka y) y.length < 0 ↔ klt x y := by
  rw [ord_neg]; unfold klt ka; omega
theorem ka_take {x : Key} {n : Nat} (hx : x.length ≤ 32) (hn : n ≤ x.length) : andM (ka x) n = ka (x.take n) ∧ (x.take n).length = n := by
  have hl : (x.take n).length = n := by rw [List.length_take]; omega
  refine ⟨?_, hl⟩
  have hr := ka_right (k := x.take n) (by omega)
  rw [hl] at hr
  rw [has_bits (ka (x.take n)) (ka x) n (ka_0 _) (ka_1 _) (ka_0 x) (ka_1 x) hr]
  intro j hj
  rw [ka_bit _ j (by omega), ka_bit _ j (by omega), List.getD_eq_getElem?_getD, List.getD_eq_getElem?_getD, List.getElem?_take_of_lt (by omega)]
theorem lcp_take (x y : Key) (n : Nat) (h1 : n ≤ x.length) (h2 : n ≤ y.length) (h3 : ∀ i, i < n → x.getD i false = y.getD i false) (h4 : n = x.length ∨ n = y.length ∨ x.getD n false ≠ y.getD n false) : x.take n = lcp x y := by
  induction n generalizing x y with
  | zero =>
    cases x with
    | nil => cases y <;> rfl
    | cons a x =>
      cases y with
      | nil => rfl
      | cons b y =>
        simp at h4
        simp [lcp, h4]
  | succ n ih =>
    cases x with
    | nil => simp at h1
    | cons a x =>
      cases y with
      | nil => simp at h2
      | cons b y =>
        have hab : a = b := by simpa using h3 0 (by omega)
        subst hab
        simp only [List.take_succ_cons, lcp, if_true]
        rw [ih x y (by simpa using h1) (by simpa using h2) (fun i hi => by simpa using h3 (i + 1) (by omega)) (by simpa using h4)]
/-- what the walk of Common tells is what two have in common -/
theorem ka_common {x y : Key} (hx : x.length ≤ 32) {m : Nat} (h0 : (m : Int) ≤ x.length) (h1 : ∀ j : Nat, 0 < j → j ≤ m → holdsB (andM (ka x) j) j (ka y) y.length = true)
    (h2 : (m : Int) = x.length ∨ holdsB (andM (ka x) (m + 1 : Nat)) (m + 1 : Nat) (ka y) y.length = false) : andM (ka x) m = ka (lcp x y) ∧ (m : Int) = (lcp x y).length := by
  have hm : m ≤ x.length := by omega
  have htk : ∀ j : Nat, j ≤ x.length → holdsB (andM (ka x) j) j (ka y) y.length = decide (x.take j <+: y) := by
    intro j hj
    have := ka_take hx hj
    have h3 := ka_holds (x := x.take j) (y := y) (by omega)
    rw [this.2] at h3
    rw [this.1, h3]
  have hpre : x.take m <+: y := by
    by_cases hz : m = 0
    · subst hz; simp
    · have := h1 m (by omega) (Nat.le_refl _)
      rw [htk m hm] at this
      simpa using this
  have hc : x.take m <+: lcp x y := lcp_max (List.take_prefix _ _) hpre
  have he : x.take m = lcp x y := by
    refine hc.eq_of_length_le ?_
    rw [List.length_take, Nat.min_eq_left hm]
    rcases Nat.lt_or_ge m (lcp x y).length with hlt | hge
    · exfalso
      have hx2 := (lcp_left x y).length_le
      rcases h2 with h2 | h2
      · omega
      · rw [htk (m + 1) (by omega)] at h2
        have : x.take (m + 1) <+: y := by
          refine List.IsPrefix.trans ?_ (lcp_right x y)
          have e := List.prefix_iff_eq_take.1 (lcp_left x y)
          rw [e]
          exact List.take_prefix_take_left (by omega)
        simp [this] at h2
    · exact hge
  rw [← he]
  exact ⟨(ka_take hx hm).1, by rw [(ka_take hx hm).2]⟩
end Go.Proofs.YtbacahoihkpkpaaDoor
