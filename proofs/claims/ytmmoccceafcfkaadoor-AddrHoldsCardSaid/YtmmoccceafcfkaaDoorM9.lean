/- Plain: the text of a prefix is read back, and what is read is the text of a prefix. -/
import Derived.Test.YtmmoccceafcfkaaDoorM5
import Derived.Test.YtmmoccceafcfkaaDoorM6
namespace Go.Proofs.YtmmoccceafcfkaaDoor

/-- behind the digits stands none -/
def noDigit (rest : List UInt8) : Prop := rest = [] ∨ ∃ c t, rest = c :: t ∧ ¬ (48 ≤ (c.toNat : Int) ∧ (c.toNat : Int) ≤ 57)
theorem noDigit_cons (c : UInt8) (t : List UInt8) (h : ¬ (48 ≤ (c.toNat : Int) ∧ (c.toNat : Int) ≤ 57)) : noDigit (c :: t) := .inr ⟨c, t, rfl, h⟩

theorem numS_stop : ∀ (l rest : List UInt8) (n : Int) (m : Nat), noDigit rest → (numS l n m).2 = m + l.length → 0 ≤ n → n ≤ 255 → numS (l ++ rest) n m = numS l n m := by
  intro l
  induction l with
  | nil =>
    intro rest n m hr _ _ _
    rcases hr with rfl | ⟨c, t, rfl, hc⟩
    · rfl
    · show (if 48 ≤ (c.toNat : Int) ∧ (c.toNat : Int) ≤ 57 then _ else (n, m)) = (n, m)
      rw [if_neg hc]
  | cons c cs ih =>
    intro rest n m hr hlen h0 h1
    by_cases hd : 48 ≤ (c.toNat : Int) ∧ (c.toNat : Int) ≤ 57
    · by_cases hb : (0 < m ∧ n = 0) ∨ 255 < 10 * n + ((c.toNat : Int) - 48)
      · have e : numS (c :: cs) n m = (n, m) := by rw [numS, if_pos hd, if_pos hb]
        rw [e] at hlen; simp at hlen
      · have e : numS (c :: cs) n m = numS cs (10 * n + ((c.toNat : Int) - 48)) (m + 1) := by rw [numS, if_pos hd, if_neg hb]
        have e2 : numS (c :: cs ++ rest) n m = numS (cs ++ rest) (10 * n + ((c.toNat : Int) - 48)) (m + 1) := by
          show numS (c :: (cs ++ rest)) n m = _
          rw [numS, if_pos hd, if_neg hb]
        rw [e2, e]
        exact ih rest _ _ hr (by rw [e] at hlen; rw [hlen]; simp; omega) (by omega) (by omega)
    · have e : numS (c :: cs) n m = (n, m) := by rw [numS, if_neg hd]
      rw [e] at hlen; simp at hlen
theorem numS_of' (p : Nat) (hp : p < 256) (rest : List UInt8) (hr : noDigit rest) : numS (Lib.decDigits p ++ rest) 0 0 = ((p : Int), (Lib.decDigits p).length) := by
  have h := numS_dec_fin ⟨p, hp⟩
  rw [numS_stop _ rest 0 0 hr (by rw [h]; simp) (by omega) (by omega)]
  exact h
theorem headG_of' (s : List UInt8) (f a p : Nat) (n : Int) (hp : p < 256) (rest : List UInt8) (hr : noDigit rest) (h : s.drop a = Lib.decDigits p ++ rest) :
    headG s f a n = headF s f false (a + (Lib.decDigits p).length) (256 * n + p) ∧ s.drop (a + (Lib.decDigits p).length) = rest := by
  refine ⟨?_, ?_⟩
  · unfold headG
    rw [h, numS_of' p hp rest hr, if_neg (dec_pos p)]
  · rw [← List.drop_drop, h, List.drop_left]
theorem dotND (t : List UInt8) : noDigit (46 :: t) := noDigit_cons _ _ (by decide)

/-- the text of an address, and behind it no digit, is read -/
theorem head_text (a : Int) (a0 : 0 ≤ a) (a1 : a < 4294967296) (rest : List UInt8) (hr : noDigit rest) : headS (textS a ++ rest) 0 = (a, (textS a).length, true) := by
  have h0 : (textS a ++ rest).drop 0 = Lib.decDigits (partN a 0) ++ 46 :: (Lib.decDigits (partN a 1) ++ 46 :: (Lib.decDigits (partN a 2) ++ 46 :: (Lib.decDigits (partN a 3) ++ rest))) := by
    rw [List.drop_zero, textS_eq a]; simp
  have hl : (textS a ++ rest).length = (textS a).length + rest.length := by simp
  generalize textS a ++ rest = s at *
  obtain ⟨e1, d1⟩ := headG_of' s 3 0 (partN a 0) 0 (partN_lt a a0 a1 0) _ (dotND _) h0
  obtain ⟨e2, d2⟩ := headF_dot s 2 _ (256 * 0 + (partN a 0 : Int)) _ d1
  obtain ⟨e3, d3⟩ := headG_of' s 2 _ (partN a 1) (256 * 0 + (partN a 0 : Int)) (partN_lt a a0 a1 1) _ (dotND _) d2
  obtain ⟨e4, d4⟩ := headF_dot s 1 _ (256 * (256 * 0 + (partN a 0 : Int)) + (partN a 1 : Int)) _ d3
  obtain ⟨e5, d5⟩ := headG_of' s 1 _ (partN a 2) (256 * (256 * 0 + (partN a 0 : Int)) + (partN a 1 : Int)) (partN_lt a a0 a1 2) _ (dotND _) d4
  obtain ⟨e6, d6⟩ := headF_dot s 0 _ (256 * (256 * (256 * 0 + (partN a 0 : Int)) + (partN a 1 : Int)) + (partN a 2 : Int)) _ d5
  obtain ⟨e7, d7⟩ := headG_of' s 0 _ (partN a 3) (256 * (256 * (256 * 0 + (partN a 0 : Int)) + (partN a 1 : Int)) + (partN a 2 : Int)) (partN_lt a a0 a1 3) _ hr d6
  have hh : headS s 0 = headG s 3 0 0 := headF_true s 3 0 0
  rw [hh, e1, e2, e3, e4, e5, e6, e7, headF, partN_val a a0 a1]
  congr 2
  rw [textS_eq]
  simp
  omega

/-- what is read is the text of an address -/
theorem head_read (s : List UInt8) (v : Int) (e : Nat) (h : headS s 0 = (v, e, true)) : 0 ≤ v ∧ v < 4294967296 ∧ s = textS v ++ s.drop e ∧ e ≤ s.length := by
  have hh : headS s 0 = headG s 3 0 0 := headF_true s 3 0 0
  rw [hh] at h
  have hq := h
  obtain ⟨p0, b0, t0, g0⟩ := head_inv s 3 0 0 v e hq
  generalize (numS (s.drop 0) 0 0).2 = m0 at *
  obtain ⟨u1, g1⟩ := dot_inv s 2 _ _ v e g0
  obtain ⟨p1, b1, t1, g2⟩ := head_inv s 2 _ _ v e g1
  generalize (numS (s.drop (0 + m0 + 1)) 0 0).2 = m1 at *
  obtain ⟨u2, g3⟩ := dot_inv s 1 _ _ v e g2
  obtain ⟨p2, b2, t2, g4⟩ := head_inv s 1 _ _ v e g3
  generalize (numS (s.drop (0 + m0 + 1 + m1 + 1)) 0 0).2 = m2 at *
  obtain ⟨u3, g5⟩ := dot_inv s 0 _ _ v e g4
  obtain ⟨p3, b3, t3, g6⟩ := head_inv s 0 _ _ v e g5
  generalize (numS (s.drop (0 + m0 + 1 + m1 + 1 + m2 + 1)) 0 0).2 = m3 at *
  simp only [headF, Prod.mk.injEq, and_true] at g6
  obtain ⟨hv, he⟩ := g6
  rw [he] at t3
  have hs : s = Lib.decDigits p0 ++ 46 :: (Lib.decDigits p1 ++ 46 :: (Lib.decDigits p2 ++ 46 :: (Lib.decDigits p3 ++ s.drop e))) := by
    rw [List.drop_zero] at t0
    rw [← t3, ← u3, ← t2, ← u2, ← t1, ← u1, ← t0]
  have q0 : partN v 0 = p0 := by show (v / 16777216).toNat = p0; omega
  have q1 : partN v 1 = p1 := by show (v / 65536 % 256).toNat = p1; omega
  have q2 : partN v 2 = p2 := by show (v / 256 % 256).toNat = p2; omega
  have q3 : partN v 3 = p3 := by show (v % 256).toNat = p3; omega
  refine ⟨by omega, by omega, ?_, ?_⟩
  · rw [textS_eq, q0, q1, q2, q3]
    simpa using hs
  · have := headF_le s 4 true 0 0 (Nat.zero_le _)
    rw [headF_true, h] at this
    exact this

/-- a prefix's text -/
def pfxText (a : Int) (n : Nat) : List UInt8 := textS a ++ 47 :: Lib.decDigits n

theorem dec_no47 (p : Nat) (hp : p < 256) : (47 : UInt8) ∉ Lib.decDigits p := by
  have h : ∀ p : Fin 256, (Lib.decDigits p.val).all (fun c => c != 47) = true := by decide +kernel
  intro hm
  have := List.all_eq_true.1 (h ⟨p, hp⟩) _ hm
  simp at this
theorem text_no47 (a : Int) (a0 : 0 ≤ a) (a1 : a < 4294967296) : (47 : UInt8) ∉ textS a := by
  rw [textS_eq]
  have h := fun k => dec_no47 _ (partN_lt a a0 a1 k)
  simp only [List.mem_append, List.mem_cons, not_or]
  exact ⟨h 0, by decide, h 1, by decide, h 2, by decide, h 3⟩

theorem preF_at (u v : List UInt8) (h : (47 : UInt8) ∉ u) : ∀ pre : List UInt8, preF pre (u ++ 47 :: v) = if (parseS (pre ++ u)).2.2 = 0 then digF (parseS (pre ++ u)).1 v 0 0 else none := by
  induction u with
  | nil =>
    intro pre
    show (if ((47 : UInt8).toNat : Int) = 47 then _ else _) = _
    rw [if_pos (by decide), List.append_nil]
  | cons c cs ih =>
    intro pre
    show (if (c.toNat : Int) = 47 then _ else preF (pre ++ [c]) (cs ++ 47 :: v)) = _
    have hc : ¬ (c.toNat : Int) = 47 := by
      intro e
      apply h
      have : c = 47 := by
        apply UInt8.toNat_inj.1
        show c.toNat = 47
        omega
      rw [this]; exact List.mem_cons_self
    rw [if_neg hc, ih (fun hm => h (List.mem_cons_of_mem _ hm))]
    simp
theorem preF_some : ∀ (rest pre : List UInt8) (r : Int × Int), preF pre rest = some r → ∃ u v, rest = u ++ 47 :: v ∧ (parseS (pre ++ u)).2.2 = 0 ∧ digF (parseS (pre ++ u)).1 v 0 0 = some r := by
  intro rest
  induction rest with
  | nil => intro pre r h; cases h
  | cons c cs ih =>
    intro pre r h
    unfold preF at h
    by_cases hc : (c.toNat : Int) = 47
    · rw [if_pos hc] at h
      by_cases hp : (parseS pre).2.2 = 0
      · rw [if_pos hp] at h
        have : c = 47 := by
          apply UInt8.toNat_inj.1
          show c.toNat = 47
          omega
        subst this
        exact ⟨[], cs, rfl, by simpa using hp, by simpa using h⟩
      · rw [if_neg hp] at h; cases h
    · rw [if_neg hc] at h
      obtain ⟨u, v, h1, h2, h3⟩ := ih _ _ h
      exact ⟨c :: u, v, by rw [h1]; rfl, by simpa using h2, by simpa using h3⟩

theorem dig_inv (a : Int) (v : List UInt8) (a' n : Int) (h : digF a v 0 0 = some (a', n)) : a' = a ∧ ∃ k : Nat, k ≤ 32 ∧ n = k ∧ v = Lib.decDigits k ∧ rightB a k = true := by
  match v with
  | [] => simp [digF] at h
  | [c] =>
    simp only [digF] at h
    split at h
    · cases h
    · rename_i h1
      split at h
      · cases h
      · rename_i h2
        simp at h
        obtain ⟨rfl, rfl⟩ := h
        refine ⟨rfl, ((c.toNat : Int) - 48).toNat, by omega, by omega, ?_, ?_⟩
        · rw [dec_one _ (by omega), ofNat_digit c (by omega)]
        · rw [Int.toNat_of_nonneg (by omega)]
          have : ¬ rightB a (0 * 10 + ((c.toNat : Int) - 48)) = false := fun e => h2 (.inr e)
          simpa using this
  | [c, d] =>
    simp only [digF] at h
    split at h
    · cases h
    · rename_i h1
      split at h
      · cases h
      · rename_i h2
        split at h
        · cases h
        · rename_i h3
          simp at h
          obtain ⟨rfl, rfl⟩ := h
          refine ⟨rfl, 10 * ((c.toNat : Int) - 48).toNat + ((d.toNat : Int) - 48).toNat, by omega, by omega, ?_, ?_⟩
          · rw [dec_step _ _ (by omega) (by omega), dec_one _ (by omega), ofNat_digit c (by omega), ofNat_digit d (by omega)]
            rfl
          · have : ¬ rightB a ((0 * 10 + ((c.toNat : Int) - 48)) * 10 + ((d.toNat : Int) - 48)) = false := fun e => h3 (.inr e)
            have e : ((10 * ((c.toNat : Int) - 48).toNat + ((d.toNat : Int) - 48).toNat : Nat) : Int) = (0 * 10 + ((c.toNat : Int) - 48)) * 10 + ((d.toNat : Int) - 48) := by omega
            rw [e]
            simpa using this
  | c :: d :: e :: t =>
    exfalso
    unfold digF at h
    split at h
    · cases h
    · rename_i h1
      unfold digF at h
      split at h
      · cases h
      · rename_i h2
        unfold digF at h
        rw [if_pos (by omega)] at h
        cases h

theorem dig_of (a : Int) (k : Nat) (hk : k ≤ 32) (h : rightB a k = true) : digF a (Lib.decDigits k) 0 0 = some (a, (k : Int)) := by
  have c48 : ∀ d : Nat, d < 10 → ((UInt8.ofNat (48 + d)).toNat : Int) = 48 + d := by
    intro d hd
    have : (UInt8.ofNat (48 + d)).toNat = 48 + d := by simp; omega
    omega
  by_cases h10 : k < 10
  · rw [dec_one k h10]
    have e := c48 k h10
    simp only [digF]
    rw [e, if_neg (by omega)]
    have e2 : (0 * 10 + (48 + (k : Int) - 48)) = k := by omega
    rw [e2, if_neg (by rw [h]; simp)]
  · obtain ⟨x, y, hx, hy, rfl⟩ : ∃ x y, 0 < x ∧ y < 10 ∧ k = 10 * x + y := ⟨k / 10, k % 10, by omega, by omega, by omega⟩
    rw [dec_step x y hx hy, dec_one x (by omega)]
    have e := c48 x (by omega)
    have e' := c48 y hy
    simp only [List.cons_append, List.nil_append, digF]
    rw [e, e', if_neg (by omega), if_neg (by omega)]
    have e2 : ((0 * 10 + (48 + (x : Int) - 48)) * 10 + (48 + (y : Int) - 48)) = ((10 * x + y : Nat) : Int) := by omega
    rw [e2, if_neg (by rw [h]; simp)]

theorem pfx_text (a : Int) (k : Nat) (a0 : 0 ≤ a) (a1 : a < 4294967296) (hk : k ≤ 32) (h : rightB a k = true) : pfxS (pfxText a k) = some (a, (k : Int)) := by
  unfold pfxS pfxText
  rw [preF_at _ _ (text_no47 a a0 a1), List.nil_append, parse_text a a0 a1]
  simp only [if_true]
  exact dig_of a k hk h
theorem text_pfx (s : List UInt8) (a n : Int) (h : pfxS s = some (a, n)) : 0 ≤ a ∧ a < 4294967296 ∧ ∃ k : Nat, k ≤ 32 ∧ n = k ∧ rightB a k = true ∧ s = pfxText a k := by
  obtain ⟨u, v, h1, h2, h3⟩ := preF_some _ _ _ h
  rw [List.nil_append] at h2 h3
  obtain ⟨rfl, k, k1, k2, k3, k4⟩ := dig_inv _ _ _ _ h3
  obtain ⟨p0, p1, p2, _⟩ := text_parse u (parseS u).1 (parseS u).2.1 (by rw [← h2])
  refine ⟨p0, p1, k, k1, k2, k4, ?_⟩
  unfold pfxText
  rw [p2, ← k3]
  exact h1

/-- what the reference looks for -/
def refCond (s : List UInt8) (a : Int) (e k : Nat) : Prop := s.drop e = 47 :: Lib.decDigits k ∧ rightB a k = true
theorem ref_hit (s : List UInt8) (a : Int) (e k : Nat) (h : headS s 0 = (a, e, true)) (hk : k ≤ 32) (hc : refCond s a e k) : pfxS s = some (a, (k : Int)) := by
  obtain ⟨a0, a1, hs, _⟩ := head_read s a e h
  rw [hc.1] at hs
  have := pfx_text a k a0 a1 hk hc.2
  unfold pfxText at this
  rw [hs]; exact this
theorem ref_miss (s : List UInt8) (h : ∀ a e, headS s 0 = (a, e, true) → ∀ k, k ≤ 32 → ¬ refCond s a e k) : pfxS s = none := by
  cases hp : pfxS s with
  | none => rfl
  | some r =>
    obtain ⟨a, n⟩ := r
    obtain ⟨a0, a1, k, k1, rfl, k3, hs⟩ := text_pfx s a n hp
    exfalso
    have hh := head_text a a0 a1 (47 :: Lib.decDigits k) (noDigit_cons _ _ (by decide))
    have hs' : s = textS a ++ 47 :: Lib.decDigits k := hs
    rw [← hs'] at hh
    refine h _ _ hh k k1 ⟨?_, k3⟩
    rw [hs', List.drop_left]
end Go.Proofs.YtmmoccceafcfkaaDoor
