/- Plain: an address's text is read back; a text that is read is the address's text. -/
import Derived.Test.YtmmoccceafcfkaaDoorM4
import Derived.Lib.ItoaNum
namespace Go.Proofs.YtmmoccceafcfkaaDoor

def partN (a : Int) : Nat → Nat
  | 0 => (a / 16777216).toNat
  | 1 => (a / 65536 % 256).toNat
  | 2 => (a / 256 % 256).toNat
  | _ => (a % 256).toNat
def textTo (a : Int) : Nat → List UInt8
  | 0 => []
  | k + 1 => textTo a k ++ (if k = 0 then [] else [46]) ++ Lib.decDigits (partN a k)
def textS (a : Int) : List UInt8 := textTo a 4
theorem partN_lt (a : Int) (a0 : 0 ≤ a) (a1 : a < 4294967296) (k : Nat) : partN a k < 256 := by
  match k with
  | 0 => show (a / 16777216).toNat < 256; omega
  | 1 => show (a / 65536 % 256).toNat < 256; omega
  | 2 => show (a / 256 % 256).toNat < 256; omega
  | n + 3 => show (a % 256).toNat < 256; omega
theorem textS_eq (a : Int) : textS a = Lib.decDigits (partN a 0) ++ 46 :: (Lib.decDigits (partN a 1) ++ 46 :: (Lib.decDigits (partN a 2) ++ 46 :: Lib.decDigits (partN a 3))) := by
  simp [textS, textTo]

theorem dec_step (n d : Nat) (hn : 0 < n) (hd : d < 10) : Lib.decDigits (10 * n + d) = Lib.decDigits n ++ [UInt8.ofNat (48 + d)] := by
  rw [Lib.decDigits, dif_neg (by omega), show (10 * n + d) / 10 = n by omega, show (10 * n + d) % 10 = d by omega]
theorem dec_one (d : Nat) (hd : d < 10) : Lib.decDigits d = [UInt8.ofNat (48 + d)] := by rw [Lib.decDigits, dif_pos hd]
theorem ofNat_digit (c : UInt8) (h0 : 48 ≤ (c.toNat : Int)) : UInt8.ofNat (48 + (((c.toNat : Int) - 48)).toNat) = c := by
  rw [show 48 + (((c.toNat : Int) - 48)).toNat = c.toNat by omega]
  simp

theorem numS_dec : ∀ (l : List UInt8) (n : Int) (m : Nat), 0 < m → 0 ≤ n → n ≤ 255 →
    Lib.decDigits n.toNat ++ l = Lib.decDigits (numS l n m).1.toNat ++ l.drop ((numS l n m).2 - m) := by
  intro l
  induction l with
  | nil => intro n m _ _ _; simp [numS]
  | cons c cs ih =>
    intro n m hm hn hn2
    by_cases hd : 48 ≤ (c.toNat : Int) ∧ (c.toNat : Int) ≤ 57
    · by_cases hb : (0 < m ∧ n = 0) ∨ 255 < 10 * n + ((c.toNat : Int) - 48)
      · have e : numS (c :: cs) n m = (n, m) := by rw [numS, if_pos hd, if_pos hb]
        rw [e]; simp
      · have e : numS (c :: cs) n m = numS cs (10 * n + ((c.toNat : Int) - 48)) (m + 1) := by rw [numS, if_pos hd, if_neg hb]
        have h := ih (10 * n + ((c.toNat : Int) - 48)) (m + 1) (by omega) (by omega) (by omega)
        have hle : m + 1 ≤ (numS cs (10 * n + ((c.toNat : Int) - 48)) (m + 1)).2 := (numS_bd cs _ (m + 1) (by omega) (by omega)).2.2.1
        rw [e]
        rw [show (10 * n + ((c.toNat : Int) - 48)).toNat = 10 * n.toNat + ((c.toNat : Int) - 48).toNat by omega] at h
        rw [dec_step _ _ (by omega) (by omega), ofNat_digit c hd.1, List.append_assoc, List.singleton_append] at h
        generalize numS cs (10 * n + ((c.toNat : Int) - 48)) (m + 1) = q at *
        rw [show q.2 - m = (q.2 - (m + 1)) + 1 by omega, List.drop_succ_cons]
        exact h
    · have e : numS (c :: cs) n m = (n, m) := by rw [numS, if_neg hd]
      rw [e]; simp
theorem numS_text (l : List UInt8) (h : (numS l 0 0).2 ≠ 0) : l = Lib.decDigits (numS l 0 0).1.toNat ++ l.drop (numS l 0 0).2 := by
  cases l with
  | nil => simp [numS] at h
  | cons c cs =>
    by_cases hd : 48 ≤ (c.toNat : Int) ∧ (c.toNat : Int) ≤ 57
    · have e : numS (c :: cs) 0 0 = numS cs (10 * 0 + ((c.toNat : Int) - 48)) (0 + 1) := by rw [numS, if_pos hd, if_neg (by omega)]
      have h2 := numS_dec cs (10 * 0 + ((c.toNat : Int) - 48)) (0 + 1) (by omega) (by omega) (by omega)
      have hle : 0 + 1 ≤ (numS cs (10 * 0 + ((c.toNat : Int) - 48)) (0 + 1)).2 := (numS_bd cs _ (0 + 1) (by omega) (by omega)).2.2.1
      rw [dec_one _ (by omega), show (10 * 0 + ((c.toNat : Int) - 48)).toNat = ((c.toNat : Int) - 48).toNat by omega, ofNat_digit c hd.1] at h2
      rw [e]
      generalize numS cs (10 * 0 + ((c.toNat : Int) - 48)) (0 + 1) = q at *
      rw [show q.2 = (q.2 - (0 + 1)) + 1 by omega, List.drop_succ_cons]
      exact h2
    · have e : numS (c :: cs) 0 0 = (0, 0) := by rw [numS, if_neg hd]
      rw [e] at h
      exact absurd rfl h

/-- the digits of a number, and behind them no digit -/
theorem numS_append : ∀ (l rest : List UInt8) (n : Int) (m : Nat), (rest = [] ∨ ∃ t, rest = 46 :: t) → (numS l n m).2 = m + l.length → 0 ≤ n → n ≤ 255 → numS (l ++ rest) n m = numS l n m := by
  intro l
  induction l with
  | nil =>
    intro rest n m hr _ _ _
    rcases hr with rfl | ⟨t, rfl⟩
    · rfl
    · show (if 48 ≤ ((46 : UInt8).toNat : Int) ∧ ((46 : UInt8).toNat : Int) ≤ 57 then _ else (n, m)) = (n, m)
      rw [if_neg (by decide)]
  | cons c cs ih =>
    intro rest n m hr hlen h0 h1
    by_cases hd : 48 ≤ (c.toNat : Int) ∧ (c.toNat : Int) ≤ 57
    · by_cases hb : (0 < m ∧ n = 0) ∨ 255 < 10 * n + ((c.toNat : Int) - 48)
      · have e : numS (c :: cs) n m = (n, m) := by rw [numS, if_pos hd, if_pos hb]
        rw [e] at hlen; simp at hlen
      · have e : numS (c :: cs) n m = numS cs (10 * n + ((c.toNat : Int) - 48)) (m + 1) := by rw [numS, if_pos hd, if_neg hb]
        have e2 : numS (c :: cs ++ rest) n m = numS (cs ++ rest) (10 * n + ((c.toNat : Int) - 48)) (m + 1) := by
          show numS (c :: (cs ++ rest)) n m = _
          rw [numS, if_pos hd, if_neg hb]
        rw [e2, e]
        exact ih rest _ _ hr (by rw [e] at hlen; rw [hlen]; simp; omega) (by omega) (by omega)
    · have e : numS (c :: cs) n m = (n, m) := by rw [numS, if_neg hd]
      rw [e] at hlen; simp at hlen
theorem numS_dec_fin : ∀ p : Fin 256, numS (Lib.decDigits p.val) 0 0 = ((p.val : Int), (Lib.decDigits p.val).length) := by decide +kernel
theorem numS_of (p : Nat) (hp : p < 256) (rest : List UInt8) (hr : rest = [] ∨ ∃ t, rest = 46 :: t) : numS (Lib.decDigits p ++ rest) 0 0 = ((p : Int), (Lib.decDigits p).length) := by
  have h := numS_dec_fin ⟨p, hp⟩
  rw [numS_append _ rest 0 0 hr (by rw [h]; simp) (by omega) (by omega)]
  exact h
theorem dec_pos (p : Nat) : (Lib.decDigits p).length ≠ 0 := by
  rw [Lib.decDigits]; split <;> simp

theorem headG_of (s : List UInt8) (f a p : Nat) (n : Int) (hp : p < 256) (rest : List UInt8) (hr : rest = [] ∨ ∃ t, rest = 46 :: t) (h : s.drop a = Lib.decDigits p ++ rest) :
    headG s f a n = headF s f false (a + (Lib.decDigits p).length) (256 * n + p) ∧ s.drop (a + (Lib.decDigits p).length) = rest := by
  refine ⟨?_, ?_⟩
  · unfold headG
    rw [h, numS_of p hp rest hr, if_neg (dec_pos p)]
  · rw [← List.drop_drop, h, List.drop_left]
theorem headF_dot (s : List UInt8) (f a : Nat) (n : Int) (t : List UInt8) (h : s.drop a = 46 :: t) : headF s (f + 1) false a n = headG s f (a + 1) n ∧ s.drop (a + 1) = t := by
  obtain ⟨h1, h2⟩ := getD_drop h
  refine ⟨?_, ?_⟩
  · rw [headF_false, if_pos ⟨h1, h2⟩]
  · rw [← List.drop_drop, h]; rfl

theorem partN_val (a : Int) (a0 : 0 ≤ a) (a1 : a < 4294967296) : (256 * (256 * (256 * (256 * 0 + ((partN a 0 : Nat) : Int)) + ((partN a 1 : Nat) : Int)) + ((partN a 2 : Nat) : Int)) + ((partN a 3 : Nat) : Int)) = a := by
  have e0 : ((partN a 0 : Nat) : Int) = a / 16777216 := by show ((a / 16777216).toNat : Int) = _; omega
  have e1 : ((partN a 1 : Nat) : Int) = a / 65536 % 256 := by show ((a / 65536 % 256).toNat : Int) = _; omega
  have e2 : ((partN a 2 : Nat) : Int) = a / 256 % 256 := by show ((a / 256 % 256).toNat : Int) = _; omega
  have e3 : ((partN a 3 : Nat) : Int) = a % 256 := by show ((a % 256).toNat : Int) = _; omega
  rw [e0, e1, e2, e3]
  omega

/-- the text of an address is read back -/
theorem parse_text (a : Int) (a0 : 0 ≤ a) (a1 : a < 4294967296) : parseS (textS a) = (a, ((textS a).length : Int), 0) := by
  rw [parse_ref]
  have h0 : (textS a).drop 0 = Lib.decDigits (partN a 0) ++ 46 :: (Lib.decDigits (partN a 1) ++ 46 :: (Lib.decDigits (partN a 2) ++ 46 :: Lib.decDigits (partN a 3))) := textS_eq a
  generalize textS a = s at *
  obtain ⟨e1, d1⟩ := headG_of s 3 0 (partN a 0) 0 (partN_lt a a0 a1 0) _ (Or.inr ⟨_, rfl⟩) h0
  obtain ⟨e2, d2⟩ := headF_dot s 2 _ (256 * 0 + (partN a 0 : Int)) _ d1
  obtain ⟨e3, d3⟩ := headG_of s 2 _ (partN a 1) (256 * 0 + (partN a 0 : Int)) (partN_lt a a0 a1 1) _ (Or.inr ⟨_, rfl⟩) d2
  obtain ⟨e4, d4⟩ := headF_dot s 1 _ (256 * (256 * 0 + (partN a 0 : Int)) + (partN a 1 : Int)) _ d3
  obtain ⟨e5, d5⟩ := headG_of s 1 _ (partN a 2) (256 * (256 * 0 + (partN a 0 : Int)) + (partN a 1 : Int)) (partN_lt a a0 a1 2) _ (Or.inr ⟨_, rfl⟩) d4
  obtain ⟨e6, d6⟩ := headF_dot s 0 _ (256 * (256 * (256 * 0 + (partN a 0 : Int)) + (partN a 1 : Int)) + (partN a 2 : Int)) _ d5
  rw [← List.append_nil (Lib.decDigits (partN a 3))] at d6
  obtain ⟨e7, d7⟩ := headG_of s 0 _ (partN a 3) (256 * (256 * (256 * 0 + (partN a 0 : Int)) + (partN a 1 : Int)) + (partN a 2 : Int)) (partN_lt a a0 a1 3) _ (Or.inl rfl) d6
  have hh : headS s 0 = headG s 3 0 0 := headF_true s 3 0 0
  have hall : headS s 0 = (a, s.length, true) := by
    rw [hh, e1, e2, e3, e4, e5, e6, e7, headF, partN_val a a0 a1]
    congr 2
    have hl := congrArg List.length h0
    have hl7 := congrArg List.length d7
    simp at hl hl7
    simp
    omega
  unfold refParseS
  rw [hall]
  simp

theorem head_inv (s : List UInt8) (f a : Nat) (n v : Int) (e : Nat) (h : headG s f a n = (v, e, true)) : ∃ p : Nat, p < 256 ∧ s.drop a = Lib.decDigits p ++ s.drop (a + (numS (s.drop a) 0 0).2) ∧ headF s f false (a + (numS (s.drop a) 0 0).2) (256 * n + p) = (v, e, true) := by
  unfold headG at h
  by_cases hq : (numS (s.drop a) 0 0).2 = 0
  · rw [if_pos hq] at h; simp at h
  · rw [if_neg hq] at h
    have hb := numS_bd (s.drop a) 0 0 (by omega) (by omega)
    refine ⟨(numS (s.drop a) 0 0).1.toNat, by omega, ?_, ?_⟩
    · have := numS_text (s.drop a) hq
      rw [List.drop_drop] at this
      exact this
    · rw [Int.toNat_of_nonneg hb.1]; exact h
theorem dot_inv (s : List UInt8) (f a : Nat) (n v : Int) (e : Nat) (h : headF s (f + 1) false a n = (v, e, true)) : s.drop a = 46 :: s.drop (a + 1) ∧ headG s f (a + 1) n = (v, e, true) := by
  rw [headF_false] at h
  by_cases hc : a < s.length ∧ s.getD a 0 = 46
  · rw [if_pos hc] at h
    refine ⟨?_, h⟩
    rw [List.drop_eq_getElem_cons hc.1]
    congr 1
    have := hc.2
    rw [List.getD_eq_getElem?_getD, List.getElem?_eq_getElem hc.1] at this
    exact this
  · rw [if_neg hc] at h; simp at h

/-- a text that is read is the text of the address -/
theorem text_parse (s : List UInt8) (a n : Int) (h : parseS s = (a, n, 0)) : 0 ≤ a ∧ a < 4294967296 ∧ textS a = s ∧ n = s.length := by
  rw [parse_ref] at h
  unfold refParseS at h
  have hh : headS s 0 = headG s 3 0 0 := headF_true s 3 0 0
  rw [hh] at h
  generalize hq : headG s 3 0 0 = q at h
  obtain ⟨v, e, ok⟩ := q
  cases ok
  · simp at h
  · by_cases hlt : e < s.length
    · simp [hlt] at h
    · simp [hlt] at h
      obtain ⟨rfl, rfl⟩ := h
      obtain ⟨p0, b0, t0, g0⟩ := head_inv s 3 0 0 v e hq
      generalize (numS (s.drop 0) 0 0).2 = m0 at *
      obtain ⟨u1, g1⟩ := dot_inv s 2 _ _ v e g0
      obtain ⟨p1, b1, t1, g2⟩ := head_inv s 2 _ _ v e g1
      generalize (numS (s.drop (0 + m0 + 1)) 0 0).2 = m1 at *
      obtain ⟨u2, g3⟩ := dot_inv s 1 _ _ v e g2
      obtain ⟨p2, b2, t2, g4⟩ := head_inv s 1 _ _ v e g3
      generalize (numS (s.drop (0 + m0 + 1 + m1 + 1)) 0 0).2 = m2 at *
      obtain ⟨u3, g5⟩ := dot_inv s 0 _ _ v e g4
      obtain ⟨p3, b3, t3, g6⟩ := head_inv s 0 _ _ v e g5
      generalize (numS (s.drop (0 + m0 + 1 + m1 + 1 + m2 + 1)) 0 0).2 = m3 at *
      simp only [headF, Prod.mk.injEq, and_true] at g6
      obtain ⟨hv, he⟩ := g6
      have hend : s.drop (0 + m0 + 1 + m1 + 1 + m2 + 1 + m3) = [] := List.drop_of_length_le (by omega)
      rw [hend, List.append_nil] at t3
      have hs : s = Lib.decDigits p0 ++ 46 :: (Lib.decDigits p1 ++ 46 :: (Lib.decDigits p2 ++ 46 :: Lib.decDigits p3)) := by
        rw [List.drop_zero] at t0
        rw [t0, u1, t1, u2, t2, u3, t3]
      have q0 : partN v 0 = p0 := by show (v / 16777216).toNat = p0; omega
      have q1 : partN v 1 = p1 := by show (v / 65536 % 256).toNat = p1; omega
      have q2 : partN v 2 = p2 := by show (v / 256 % 256).toNat = p2; omega
      have q3 : partN v 3 = p3 := by show (v % 256).toNat = p3; omega
      refine ⟨by omega, by omega, ?_, ?_⟩
      · rw [textS_eq, q0, q1, q2, q3]; exact hs.symm
      · have hle : s.length ≤ e := by omega
        have : e ≤ s.length := by
          have := headF_le s 4 true 0 0 (Nat.zero_le _)
          rw [headF_true, hq] at this
          exact this
        omega
end Go.Proofs.YtmmoccceafcfkaaDoor
