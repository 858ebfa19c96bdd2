/- Plain: what Arm, Cancel, Pop make of rows in order. -/
import Derived.Test.YtkigoihdmojpfaaK1
namespace Go.Proofs.Ytkigoihdmojpfaa

/-- when a timer is due, whether it is -/
def dueS (S : List TR) (k a n : Int) : Int × Bool := match S.find? (sameK k a n) with
  | some r => (r.due, true)
  | none => (0, false)
theorem dueS_none {S : List TR} {k a n : Int} (h : ∀ r ∈ S, ¬ (r.kind = k ∧ r.addr = a ∧ r.len = n)) : dueS S k a n = (0, false) := by
  unfold dueS
  rw [List.find?_eq_none.2 (fun r hr e => h r hr (sameK_iff.1 e))]
theorem dueS_some {S : List TR} (hA : ApartS S) {r : TR} (hr : r ∈ S) : dueS S r.kind r.addr r.len = (r.due, true) := by
  unfold dueS
  cases h : S.find? (sameK r.kind r.addr r.len) with
  | none => exact absurd (sameK_iff.2 ⟨rfl, rfl, rfl⟩) (List.find?_eq_none.1 h r hr)
  | some s =>
    have h1 := List.mem_of_find?_eq_some h
    have h2 := sameK_iff.1 (List.find?_some h)
    obtain ⟨i, hi, ei⟩ := List.mem_iff_getElem.1 h1
    obtain ⟨j, hj, ej⟩ := List.mem_iff_getElem.1 hr
    unfold ApartS at hA
    rw [List.pairwise_iff_getElem] at hA
    have : i = j := by
      rcases Nat.lt_trichotomy i j with h3 | h3 | h3
      · exact absurd (by rw [ei, ej]; exact h2) (hA i j hi hj h3)
      · exact h3
      · exact absurd (by rw [ei, ej]; exact ⟨h2.1.symm, h2.2.1.symm, h2.2.2.symm⟩) (hA j i hj hi h3)
    subst this
    rw [ei] at ej
    rw [ej]
/-- armed anew -/
def armS (S : List TR) (r : TR) : List TR := insS (wo r.kind r.addr r.len S) r
theorem wo_self {S : List TR} {k a n : Int} (h : ∀ r ∈ S, ¬ (r.kind = k ∧ r.addr = a ∧ r.len = n)) : wo k a n S = S :=
  List.filter_eq_self.2 (fun r hr => by
    cases hc : sameK k a n r with
    | false => rfl
    | true => exact absurd (sameK_iff.1 hc) (h r hr))
theorem armS_ord {S : List TR} (h : OrdS S) (r : TR) : OrdS (armS S r) :=
  insS_ord (h.wo _ _ _) (fun q hq e => wo_not q hq (by rw [e]; exact ⟨rfl, rfl, rfl⟩))
theorem armS_old {L S : List TR} {i : Nat} {x r : TR} (hp : L.Perm S) (hA : ApartS S) (hx : L[i]? = some x) (he : r.kind = x.kind ∧ r.addr = x.addr ∧ r.len = x.len) : (L.set i r).Perm (armS S r) := by
  have h1 := wo_perm hp hA hx
  have hi := (List.getElem?_eq_some_iff.1 hx).1
  unfold armS
  rw [he.1, he.2.1, he.2.2]
  exact ((set_perm_erase hi r).trans (h1.cons r)).trans (insS_perm _ r).symm
theorem armS_new {L S : List TR} {r : TR} (hp : L.Perm S) (hn : ∀ x ∈ S, ¬ (x.kind = r.kind ∧ x.addr = r.addr ∧ x.len = r.len)) : (L ++ [r]).Perm (armS S r) := by
  unfold armS
  rw [wo_self hn]
  exact ((List.perm_append_singleton r L).trans (hp.cons r)).trans (insS_perm _ r).symm
theorem top_of {L S : List TR} {x : TR} (hH : Hp ltT L L.length) (hp : L.Perm (x :: S)) (hO : OrdS (x :: S)) : L[0]? = some x := by
  have h0 : 0 < L.length := by rw [hp.length_eq]; simp
  obtain ⟨k, hk, ek⟩ := List.mem_iff_getElem.1 (hp.mem_iff.2 (List.mem_cons_self (a := x) (l := S)))
  have h1 := hH.top weakT (Nat.le_refl _) k hk x L[0] (by rw [List.getElem?_eq_getElem hk, ek]) (List.getElem?_eq_getElem h0)
  have h2 : L[0] ∈ x :: S := hp.mem_iff.1 (List.getElem_mem h0)
  rw [List.getElem?_eq_getElem h0]
  rcases List.mem_cons.1 h2 with e | e
  · rw [e]
  · have := (List.pairwise_cons.1 hO).1 _ e
    rw [h1] at this
    cases this
theorem tail_of {L S : List TR} {x : TR} (hx : L[0]? = some x) (hp : L.Perm (x :: S)) : (L.eraseIdx 0).Perm S := by
  obtain ⟨h0, e⟩ := List.getElem?_eq_some_iff.1 hx
  have h1 := get_cons_erase h0
  rw [e] at h1
  exact List.Perm.cons_inv (h1.trans hp)
/-- another due -/
theorem tCs_setd {L : List TR} {i : Nat} {x : TR} (d : Int) (hx : L[i]? = some x) : (tCs L).set (i * 4 + 3) (.int .i64 d) = tCs (L.set i ⟨x.kind, x.addr, x.len, d⟩) := by
  have hi := (List.getElem?_eq_some_iff.1 hx).1
  refine tCs_ext (by simp only [List.length_set, tCs_len]) ?_
  intro k c s hs hc
  simp only [List.getElem?_set, tCs_len] at hs ⊢
  by_cases e : i = k
  · subst e
    rw [if_pos rfl, if_pos hi] at hs
    cases hs
    rcases (show c = 0 ∨ c = 1 ∨ c = 2 ∨ c = 3 by omega) with rfl | rfl | rfl | rfl
    · rw [if_neg (by omega), tCs_at hx (by omega)]; rfl
    · rw [if_neg (by omega), tCs_at hx (by omega)]; rfl
    · rw [if_neg (by omega), tCs_at hx (by omega)]; rfl
    · rw [if_pos rfl, if_pos (by omega)]; rfl
  · rw [if_neg e] at hs
    rw [if_neg (by omega)]
    exact tCs_at hs hc
end Go.Proofs.Ytkigoihdmojpfaa
