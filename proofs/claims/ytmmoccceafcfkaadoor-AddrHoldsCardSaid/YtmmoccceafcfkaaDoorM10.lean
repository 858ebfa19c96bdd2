/- Plain: the addresses of a list, one by one; the reference's Each goes the same way. -/
import Derived.Test.YtmmoccceafcfkaaDoorM9
import Derived.Lib.IndexMore
namespace Go.Proofs.YtmmoccceafcfkaaDoor

theorem index_none (u : List UInt8) (h : (32 : UInt8) ∉ u) : Lib.index u [32] = -1 := by
  induction u with
  | nil => rfl
  | cons b l ih =>
    have hb : b ≠ 32 := fun e => h (by rw [e]; exact List.mem_cons_self)
    have hl := ih (fun hm => h (List.mem_cons_of_mem _ hm))
    unfold Lib.index
    rw [hl]
    have : ([32] : List UInt8).isPrefixOf (b :: l) = false := by simp [List.isPrefixOf, hb.symm]
    rw [this]
    rfl
theorem index_at (u v : List UInt8) (h : (32 : UInt8) ∉ u) : Lib.index (u ++ 32 :: v) [32] = u.length := by
  induction u with
  | nil => simp [Lib.index, List.isPrefixOf]
  | cons b l ih =>
    have hb : b ≠ 32 := fun e => h (by rw [e]; exact List.mem_cons_self)
    have hl := ih (fun hm => h (List.mem_cons_of_mem _ hm))
    show Lib.index (b :: (l ++ 32 :: v)) [32] = _
    unfold Lib.index
    rw [hl]
    have : ([32] : List UInt8).isPrefixOf (b :: (l ++ 32 :: v)) = false := by simp [List.isPrefixOf, hb.symm]
    rw [this]
    have h2 : ((l.length : Int) == -1) = false := by rw [beq_eq_false_iff_ne]; omega
    rw [h2]
    simp
theorem cut_none (u : List UInt8) (h : (32 : UInt8) ∉ u) : Lib.cut u [32] = (u, [], false) := by
  unfold Lib.cut
  rw [index_none u h]
  rfl
theorem cut_at (u v : List UInt8) (h : (32 : UInt8) ∉ u) : Lib.cut (u ++ 32 :: v) [32] = (u, v, true) := by
  unfold Lib.cut
  rw [index_at u v h, if_pos (by omega)]
  simp
theorem split32 (t : List UInt8) : (32 : UInt8) ∉ t ∨ ∃ u v, t = u ++ 32 :: v ∧ (32 : UInt8) ∉ u := by
  induction t with
  | nil => left; simp
  | cons b l ih =>
    by_cases hb : b = 32
    · right; exact ⟨[], l, by rw [hb]; rfl, by simp⟩
    · rcases ih with h | ⟨u, v, rfl, h⟩
      · left; simp [h, Ne.symm hb]
      · right; exact ⟨b :: u, v, rfl, by simp [h, Ne.symm hb]⟩

/-- the addresses of a list from a place on -/
def eachL (s : List UInt8) : Nat → Nat → List (Nat × Int)
  | 0, _ => []
  | f + 1, at' => if (parseS (Lib.cut (s.drop at') [32]).1).2.2 = 0 then (at', (parseS (Lib.cut (s.drop at') [32]).1).1) :: (if (Lib.cut (s.drop at') [32]).2.2 then eachL s f (at' + (Lib.cut (s.drop at') [32]).1.length + 1) else []) else []
def eachS (s : List UInt8) : List (Nat × Int) := eachL s (s.length + 1) 0

theorem eachL_bad (s : List UInt8) (f at' : Nat) (h : (parseS (Lib.cut (s.drop at') [32]).1).2.2 ≠ 0) : eachL s f at' = [] := by
  cases f with
  | zero => rfl
  | succ f => unfold eachL; rw [if_neg h]
theorem eachL_last (s : List UInt8) (f at' : Nat) (a n : Int) (h : parseS (Lib.cut (s.drop at') [32]).1 = (a, n, 0)) (hm : (Lib.cut (s.drop at') [32]).2.2 = false) : eachL s (f + 1) at' = [(at', a)] := by
  unfold eachL; rw [h, hm]; simp
theorem eachL_more (s : List UInt8) (f at' : Nat) (a n : Int) (h : parseS (Lib.cut (s.drop at') [32]).1 = (a, n, 0)) (hm : (Lib.cut (s.drop at') [32]).2.2 = true) :
    eachL s (f + 1) at' = (at', a) :: eachL s f (at' + (Lib.cut (s.drop at') [32]).1.length + 1) := by
  conv => lhs; unfold eachL
  rw [h, hm]; simp
theorem eachL_len (s : List UInt8) : ∀ (f at' : Nat), (eachL s f at').length ≤ f := by
  intro f
  induction f with
  | zero => intro at'; simp [eachL]
  | succ f ih =>
    intro at'
    unfold eachL
    split
    · split
      · have := ih (at' + (Lib.cut (s.drop at') [32]).1.length + 1)
        simp only [List.length_cons]; omega
      · simp
    · simp

/-- where the cut comes to lie -/
theorem cut_len (t : List UInt8) : ((Lib.cut t [32]).2.2 = true ∧ (Lib.cut t [32]).1.length < t.length ∧ t.getD (Lib.cut t [32]).1.length 0 = 32) ∨ ((Lib.cut t [32]).2.2 = false ∧ (Lib.cut t [32]).1 = t) := by
  rcases split32 t with h | ⟨u, v, rfl, h⟩
  · right; rw [cut_none t h]; exact ⟨rfl, rfl⟩
  · left; rw [cut_at u v h]; refine ⟨rfl, by simp, by simp⟩

theorem text_no32 (a : Int) (a0 : 0 ≤ a) (a1 : a < 4294967296) : (32 : UInt8) ∉ textS a := by
  have hd : ∀ p : Nat, p < 256 → (32 : UInt8) ∉ Lib.decDigits p := by
    intro p hp hm
    have h : ∀ p : Fin 256, (Lib.decDigits p.val).all (fun c => c != 32) = true := by decide +kernel
    have := List.all_eq_true.1 (h ⟨p, hp⟩) _ hm
    simp at this
  rw [textS_eq]
  have h := fun k => hd _ (partN_lt a a0 a1 k)
  simp only [List.mem_append, List.mem_cons, not_or]
  exact ⟨h 0, by decide, h 1, by decide, h 2, by decide, h 3⟩

theorem numS_drop (s : List UInt8) (k j : Nat) : s.drop (k + j) = (s.drop k).drop j := by rw [List.drop_drop]

/-- the reference's Head from a place on is that of what is left -/
theorem head_shift (s : List UInt8) (k : Nat) (hk : k ≤ s.length) : ∀ (f : Nat) (first : Bool) (j : Nat) (n : Int),
    headF s f first (k + j) n = ((headF (s.drop k) f first j n).1, k + (headF (s.drop k) f first j n).2.1, (headF (s.drop k) f first j n).2.2) := by
  intro f
  induction f with
  | zero => intro first j n; rfl
  | succ f ih =>
    intro first j n
    have hl : (k + j < s.length ∧ s.getD (k + j) 0 = 46) ↔ (j < (s.drop k).length ∧ (s.drop k).getD j 0 = 46) := by
      simp only [List.getD_eq_getElem?_getD, List.getElem?_drop, List.length_drop]
      constructor
      · rintro ⟨h1, h2⟩; exact ⟨by omega, h2⟩
      · rintro ⟨h1, h2⟩; exact ⟨by omega, h2⟩
    cases first with
    | true =>
      rw [headF_true, headF_true]
      unfold headG
      rw [← numS_drop]
      split
      · rfl
      · rw [show k + j + (numS (s.drop (k + j)) 0 0).2 = k + (j + (numS (s.drop (k + j)) 0 0).2) by omega, ih]
    | false =>
      rw [headF_false, headF_false]
      by_cases hc : k + j < s.length ∧ s.getD (k + j) 0 = 46
      · rw [if_pos hc, if_pos (hl.1 hc)]
        unfold headG
        rw [← numS_drop, show k + (j + 1) = k + j + 1 by omega]
        split
        · rfl
        · rw [show k + j + 1 + (numS (s.drop (k + j + 1)) 0 0).2 = k + (j + 1 + (numS (s.drop (k + j + 1)) 0 0).2) by omega, ih]
      · rw [if_neg hc, if_neg (fun h => hc (hl.2 h))]

theorem head_at (s : List UInt8) (k : Nat) (hk : k ≤ s.length) (a : Int) (e : Nat) (ok : Bool) (h : headS (s.drop k) 0 = (a, e, ok)) : headS s k = (a, k + e, ok) := by
  have := head_shift s k hk 4 true 0 0
  unfold headS at h ⊢
  rw [Nat.add_zero] at this
  rw [this, h]

/-- one step of both: an address is there -/
theorem each_ok (s : List UInt8) (k : Nat) (hk : k ≤ s.length) (a n : Int) (h : parseS (Lib.cut (s.drop k) [32]).1 = (a, n, 0)) :
    headS s k = (a, k + (Lib.cut (s.drop k) [32]).1.length, true) ∧ 0 ≤ a ∧ a < 4294967296 ∧
    (((Lib.cut (s.drop k) [32]).2.2 = true ∧ k + (Lib.cut (s.drop k) [32]).1.length < s.length ∧ s.getD (k + (Lib.cut (s.drop k) [32]).1.length) 0 = 32) ∨ ((Lib.cut (s.drop k) [32]).2.2 = false ∧ k + (Lib.cut (s.drop k) [32]).1.length = s.length)) := by
  obtain ⟨a0, a1, ht, _⟩ := text_parse _ a n h
  refine ⟨?_, a0, a1, ?_⟩
  · refine head_at s k hk a _ true ?_
    rcases split32 (s.drop k) with h3 | ⟨u, v, h3, h4⟩
    · rw [cut_none _ h3] at ht ⊢
      simp only at ht ⊢
      have := head_text a a0 a1 [] (.inl rfl)
      rw [List.append_nil] at this
      rw [← ht]
      exact this
    · rw [h3, cut_at u v h4] at ht ⊢
      simp only at ht ⊢
      have := head_text a a0 a1 (32 :: v) (noDigit_cons _ _ (by decide))
      rw [ht] at this
      exact this
  · have hl : (s.drop k).length = s.length - k := List.length_drop ..
    rcases cut_len (s.drop k) with ⟨c1, c2, c3⟩ | ⟨c1, c2⟩
    · left
      refine ⟨c1, by omega, ?_⟩
      simp only [List.getD_eq_getElem?_getD, List.getElem?_drop] at c3
      simp only [List.getD_eq_getElem?_getD]
      exact c3
    · right
      exact ⟨c1, by rw [c2]; omega⟩
/-- one step of both: none is there -/
theorem each_no (s : List UInt8) (k : Nat) (hk : k ≤ s.length) (h : (parseS (Lib.cut (s.drop k) [32]).1).2.2 ≠ 0) :
    (headS s k).2.2 = false ∨ ((headS s k).2.2 = true ∧ (headS s k).2.1 < s.length ∧ s.getD (headS s k).2.1 0 ≠ 32) := by
  obtain ⟨a, e, ok, hq⟩ : ∃ a e ok, headS (s.drop k) 0 = (a, e, ok) := ⟨_, _, _, rfl⟩
  rw [head_at s k hk a e ok hq]
  cases ok with
  | false => exact .inl rfl
  | true =>
    right
    obtain ⟨a0, a1, ht, he⟩ := head_read _ _ _ hq
    have hl : (s.drop k).length = s.length - k := List.length_drop ..
    have hlen : e = (textS a).length := by
      have := congrArg List.length ht
      rw [List.length_append] at this
      have h2 : ((s.drop k).drop e).length = (s.drop k).length - e := List.length_drop ..
      omega
    refine ⟨rfl, ?_⟩
    show k + e < s.length ∧ s.getD (k + e) 0 ≠ 32
    have h32 := text_no32 a a0 a1
    have hlt : k + e < s.length := by
      by_cases hc : k + e < s.length
      · exact hc
      · exfalso
        have hd : (s.drop k).drop e = [] := List.drop_of_length_le (by omega)
        rw [hd, List.append_nil] at ht
        apply h
        rw [ht, cut_none _ h32]
        simp only
        rw [parse_text a a0 a1]
    refine ⟨hlt, fun hc => h ?_⟩
    have hd : (s.drop k).drop e = 32 :: (s.drop k).drop (e + 1) := by
      have hlt2 : e < (s.drop k).length := by omega
      rw [List.drop_eq_getElem_cons hlt2]
      congr 1
      have : (s.drop k).getD e 0 = 32 := by
        simp only [List.getD_eq_getElem?_getD, List.getElem?_drop] at hc ⊢
        exact hc
      rw [List.getD_eq_getElem?_getD, List.getElem?_eq_getElem hlt2] at this
      exact this
    rw [hd] at ht
    rw [ht, cut_at _ _ h32]
    simp only
    rw [parse_text a a0 a1]
end Go.Proofs.YtmmoccceafcfkaaDoor
