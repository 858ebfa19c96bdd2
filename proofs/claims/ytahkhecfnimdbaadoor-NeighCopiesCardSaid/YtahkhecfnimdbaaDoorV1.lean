/- Neighbours in order: plain. -/
import Derived.Test.YtahkhecfnimdbaaDoorS5
namespace Go.Proofs.YtahkhecfnimdbaaDoor
open Go.RowKit Go.Maps

theorem OrdT.apart {T : List Rec} (h : OrdT T) : Apart T := by
  unfold Apart
  refine List.Pairwise.imp ?_ h
  intro a b hab ⟨e1, e2⟩
  unfold LtR at hab
  omega
theorem OrdT.filter {T : List Rec} (h : OrdT T) (p : Rec → Bool) : OrdT (T.filter p) := List.Pairwise.filter p h

/-- the place of a neighbour -/
def atI (f a : Int) : List Rec → Option Nat
  | [] => none
  | r :: T => if atR f a r then some 0 else (atI f a T).map (· + 1)
theorem atI_none {f a : Int} {T : List Rec} : atI f a T = none ↔ hasR T f a = false := by
  induction T with
  | nil => simp [atI, hasR]
  | cons r T ih =>
    unfold atI hasR
    rw [List.any_cons]
    cases atR f a r <;> simp [ih, hasR]
theorem atI_some {f a : Int} {T : List Rec} {i : Nat} (h : atI f a T = some i) : ∃ r, T[i]? = some r ∧ atR f a r = true ∧ ∀ j, j < i → ∀ s, T[j]? = some s → atR f a s = false := by
  induction T generalizing i with
  | nil => simp [atI] at h
  | cons r T ih =>
    unfold atI at h
    by_cases hr : atR f a r = true
    · rw [if_pos hr] at h
      obtain rfl : 0 = i := Option.some.inj h
      exact ⟨r, rfl, hr, fun j hj => by omega⟩
    · rw [if_neg hr] at h
      obtain ⟨j, hj, rfl⟩ := Option.map_eq_some_iff.1 h
      obtain ⟨s, h1, h2, h3⟩ := ih hj
      refine ⟨s, by simpa using h1, h2, fun k hk u hu => ?_⟩
      cases k with
      | zero => simp at hu; subst hu; simpa using hr
      | succ k => exact h3 k (by omega) u (by simpa using hu)
theorem atI_of {f a : Int} {T : List Rec} {i : Nat} {r : Rec} (h1 : T[i]? = some r) (h2 : atR f a r = true) (h3 : ∀ j, j < i → ∀ s, T[j]? = some s → atR f a s = false) : atI f a T = some i := by
  induction T generalizing i with
  | nil => simp at h1
  | cons q T ih =>
    unfold atI
    cases i with
    | zero => simp at h1; subst h1; rw [if_pos h2]
    | succ i =>
      rw [if_neg (by rw [h3 0 (by omega) q rfl]; simp), ih (i := i) (by simpa using h1) (fun j hj s hs => h3 (j + 1) (by omega) s (by simpa using hs))]
      rfl
theorem atI_not {f a : Int} {T : List Rec} (h : ∀ (j : Nat) (s : Rec), T[j]? = some s → atR f a s = false) : atI f a T = none := by
  cases hc : atI f a T with
  | none => rfl
  | some i =>
    obtain ⟨r, h1, h2, _⟩ := atI_some hc
    rw [h i r h1] at h2
    cases h2

/-- is a neighbour ahead of a key? -/
def ltB (f a : Int) (r : Rec) : Bool := decide (r.face < f) || (decide (r.face = f) && decide (r.addr < a))
/-- how many stand ahead of a key -/
def ahead (f a : Int) (T : List Rec) : Nat := (T.takeWhile (ltB f a)).length
def insT (T : List Rec) (r : Rec) : List Rec := T.take (ahead r.face r.addr T) ++ r :: T.drop (ahead r.face r.addr T)
theorem insT_cons (q r : Rec) (T : List Rec) : insT (q :: T) r = if ltB r.face r.addr q then q :: insT T r else r :: q :: T := by
  unfold insT ahead
  by_cases h : ltB r.face r.addr q = true
  · rw [List.takeWhile_cons_of_pos h, if_pos h]; simp
  · rw [List.takeWhile_cons_of_neg h, if_neg h]; simp
theorem insT_perm (T : List Rec) (r : Rec) : (insT T r).Perm (r :: T) := by
  induction T with
  | nil => exact List.Perm.refl _
  | cons q T ih =>
    rw [insT_cons]
    split
    · exact (List.Perm.cons q ih).trans (List.Perm.swap r q T)
    · exact List.Perm.refl _
theorem insT_ord {T : List Rec} {r : Rec} (h : OrdT T) (hn : hasR T r.face r.addr = false) : OrdT (insT T r) := by
  induction T with
  | nil => exact List.pairwise_singleton _ _
  | cons q T ih =>
    unfold OrdT at h
    rw [List.pairwise_cons] at h
    unfold hasR at hn
    rw [List.any_cons, Bool.or_eq_false_iff] at hn
    have hq : ¬ (q.face = r.face ∧ q.addr = r.addr) := fun e => by rw [atR_iff.2 e] at hn; exact absurd hn.1 (by simp)
    rw [insT_cons]
    split
    · next hl =>
      unfold OrdT
      rw [List.pairwise_cons]
      refine ⟨fun s hs => ?_, ih h.2 hn.2⟩
      rcases List.mem_cons.1 ((insT_perm T r).mem_iff.1 hs) with rfl | hs
      · simp [ltB] at hl
        unfold LtR
        omega
      · exact h.1 s hs
    · next hl =>
      have hlt : LtR r q := by
        simp [ltB] at hl
        unfold LtR
        omega
      unfold OrdT
      rw [List.pairwise_cons]
      refine ⟨fun s hs => ?_, List.pairwise_cons.2 h⟩
      rcases List.mem_cons.1 hs with rfl | hs
      · exact hlt
      · have := h.1 s hs
        unfold LtR at *
        omega
theorem upR_new {T : List Rec} {r : Rec} (hn : hasR T r.face r.addr = false) : upR T r = r :: T := by
  unfold upR
  rw [filter_none hn]
theorem set_perm {T : List Rec} {r q : Rec} {i : Nat} (hA : Apart T) (hq : T[i]? = some q) (ha : atR r.face r.addr q = true) : (T.set i r).Perm (upR T r) := by
  induction T generalizing i with
  | nil => simp at hq
  | cons x T ih =>
    unfold Apart at hA
    rw [List.pairwise_cons] at hA
    obtain ⟨e1, e2⟩ := atR_iff.1 ha
    cases i with
    | zero =>
      simp at hq
      subst hq
      unfold upR
      rw [List.filter_cons_of_neg (by simp [ha])]
      have : (T.filter fun s => !atR r.face r.addr s) = T := by
        rw [List.filter_eq_self]
        intro s hs
        cases hc : atR r.face r.addr s with
        | false => rfl
        | true =>
          obtain ⟨e3, e4⟩ := atR_iff.1 hc
          exact absurd ⟨e1.trans e3.symm, e2.trans e4.symm⟩ (hA.1 s hs)
      rw [this]
      exact List.Perm.refl _
    | succ i =>
      have hq' : T[i]? = some q := by simpa using hq
      have hx : atR r.face r.addr x = false := by
        cases hc : atR r.face r.addr x with
        | false => rfl
        | true =>
          obtain ⟨e3, e4⟩ := atR_iff.1 hc
          exact absurd ⟨e3.trans e1.symm, e4.trans e2.symm⟩ (hA.1 q (List.mem_of_getElem? hq'))
      have h2 := ih hA.2 hq'
      unfold upR at h2 ⊢
      rw [List.filter_cons_of_pos (by simp [hx])]
      exact (List.Perm.cons x h2).trans (List.Perm.swap r x _)
theorem set_ord {T : List Rec} {r q : Rec} {i : Nat} (hO : OrdT T) (hq : T[i]? = some q) (ha : atR r.face r.addr q = true) : OrdT (T.set i r) := by
  obtain ⟨e1, e2⟩ := atR_iff.1 ha
  have hk : ∀ s, (LtR s q ↔ LtR s r) ∧ (LtR q s ↔ LtR r s) := fun s => by unfold LtR; rw [e1, e2]; exact ⟨Iff.rfl, Iff.rfl⟩
  induction T generalizing i with
  | nil => simp at hq
  | cons x T ih =>
    unfold OrdT at hO
    rw [List.pairwise_cons] at hO
    cases i with
    | zero =>
      simp at hq
      subst hq
      unfold OrdT
      rw [List.set_cons_zero, List.pairwise_cons]
      exact ⟨fun s hs => (hk s).2.1 (hO.1 s hs), hO.2⟩
    | succ i =>
      have hq' : T[i]? = some q := by simpa using hq
      unfold OrdT
      rw [List.set_cons_succ, List.pairwise_cons]
      refine ⟨fun s hs => ?_, ih hO.2 hq'⟩
      rcases List.mem_or_eq_of_mem_set hs with h | rfl
      · exact hO.1 s h
      · exact (hk x).1.1 (hO.1 q (List.mem_of_getElem? hq'))

/-- the neighbours may be told in another order -/
theorem NW.reorder {W : World} {p m : Nat} {s : St} {T : List Rec} (h : NW W p m s) (hp : s.T.Perm T) : NW W p m ⟨T, s.now, s.lost⟩ := by
  obtain ⟨D, ho, ht⟩ := h.ns.map
  have hl := hp.length_eq
  exact ⟨⟨h.ns.box, ⟨D, by rw [← hl]; exact ho, ht.reorder hp⟩, fun r hr => h.ns.wf r (hp.mem_iff.2 hr)⟩, h.fb, by show T.length ≤ 64; rw [← hl]; exact h.len, h.n0, h.n1, h.l0, h.l1⟩
end Go.Proofs.YtahkhecfnimdbaaDoor
