/- Plain: the places of a list of timers, as a map's table. -/
import Derived.Test.YtkigoihdmojpfaaM0
import Derived.Test.YtkigoihdmojpfaaM1
namespace Go.Proofs.Ytkigoihdmojpfaa
open Go.Maps (has size)

/-- a list with its places -/
abbrev idx (L : List TR) : List (TR × Nat) := L.zipIdx
theorem mem_idx {L : List TR} {r : TR} {i : Nat} : (r, i) ∈ idx L ↔ L[i]? = some r := List.mk_mem_zipIdx_iff_getElem?

section
variable {H : Type} {kf : TR → Lit} {df : TR × Nat → DataW H} {D : DataW H}
def kfp (kf : TR → Lit) (x : TR × Nat) : Lit := kf x.1
theorem idx_apart {L : List TR} (h : L.Pairwise (fun r s => kf r ≠ kf s)) : (idx L).Pairwise (fun a b => kfp kf a ≠ kfp kf b) := by
  have := (List.pairwise_map (f := Prod.fst) (l := idx L) (R := fun r s => kf r ≠ kf s)).1 (by rw [List.zipIdx_map_fst]; exact h)
  exact this
theorem Tab.ext {α : Type} {k : α → Lit} {d : α → DataW H} {T T' : List α} (h : Tab k d D T) (ha : T'.Pairwise (fun r s => k r ≠ k s)) (hm : ∀ x, x ∈ T ↔ x ∈ T') : Tab k d D T' :=
  h.reorder ((List.perm_ext_iff_of_nodup (h.apart.imp (fun hne e => hne (by rw [e]))) (ha.imp (fun hne e => hne (by rw [e])))).2 hm)

theorem ap_get {L : List TR} (h : L.Pairwise (fun r s => kf r ≠ kf s)) {i j : Nat} {r s : TR} (hi : L[i]? = some r) (hj : L[j]? = some s) (e : kf r = kf s) : i = j := by
  obtain ⟨h1, rfl⟩ := List.getElem?_eq_some_iff.1 hi
  obtain ⟨h2, rfl⟩ := List.getElem?_eq_some_iff.1 hj
  rw [List.pairwise_iff_getElem] at h
  rcases Nat.lt_trichotomy i j with h3 | h3 | h3
  · exact absurd e (h i j h1 h2 h3)
  · exact h3
  · exact absurd e.symm (h j i h2 h1 h3)

/-- the two stores of Swap -/
theorem Tab.swap {L : List TR} {T : List (TR × Nat)} (h : Tab (kfp kf) df D T) (hT : ∀ x, x ∈ T ↔ x ∈ idx L) (hA : L.Pairwise (fun r s => kf r ≠ kf s)) (hk : ∀ r ∈ L, WideAt.IsKeyLit (kf r)) {i j : Nat} {x y : TR} (hx : L[i]? = some x) (hy : L[j]? = some y) :
    Tab (kfp kf) df ((D.put (kf y) (df (y, i))).put (kf x) (df (x, j))) (idx (swapL L i j)) := by
  have hil := (List.getElem?_eq_some_iff.1 hx).1
  have hjl := (List.getElem?_eq_some_iff.1 hy).1
  have hkx := hk x (List.mem_of_getElem? hx)
  have hky := hk y (List.mem_of_getElem? hy)
  have hA' : (swapL L i j).Pairwise (fun r s => kf r ≠ kf s) := ((swapL_perm L i j).symm.pairwise_iff (fun {a b} (h : kf a ≠ kf b) => h.symm)).1 hA
  have h1 := (h.put (y, i) hky).put (x, j) hkx
  refine h1.ext (idx_apart hA') ?_
  rintro ⟨r, k⟩
  rw [mem_idx, swapL_get hil hjl, List.mem_cons, others_mem (kf := kfp kf) (k := kfp kf (x, j)) hkx, List.mem_cons, others_mem (kf := kfp kf) (k := kfp kf (y, i)) hky, hT, mem_idx]
  show (r, k) = (x, j) ∨ ((r, k) = (y, i) ∨ L[k]? = some r ∧ kf r ≠ kf y) ∧ kf r ≠ kf x ↔ _
  constructor
  · rintro (h2 | ⟨h2 | ⟨h2, h3⟩, h4⟩)
    · cases h2; rw [if_pos rfl]; exact hx
    · cases h2
      by_cases e : i = j
      · subst e; rw [hx] at hy; cases hy; exact absurd rfl h4
      · rw [if_neg e, if_pos rfl]; exact hy
    · have n1 : k ≠ j := fun e => h3 (by subst e; rw [hy] at h2; cases h2; rfl)
      have n2 : k ≠ i := fun e => h4 (by subst e; rw [hx] at h2; cases h2; rfl)
      rw [if_neg n1, if_neg n2]; exact h2
  · intro h2
    by_cases e1 : k = j
    · rw [if_pos e1, hx] at h2; cases h2; exact .inl (by rw [e1])
    · rw [if_neg e1] at h2
      by_cases e2 : k = i
      · rw [if_pos e2, hy] at h2
        cases h2
        refine .inr ⟨.inl (by rw [e2]), fun e => e1 ?_⟩
        rw [e2]
        exact (ap_get hA hy hx e).symm
      · rw [if_neg e2] at h2
        refine .inr ⟨.inr ⟨h2, fun e => e1 (ap_get hA h2 hy e)⟩, fun e => e2 (ap_get hA h2 hx e)⟩
/-- the store of Push -/
theorem Tab.push {L : List TR} {T : List (TR × Nat)} (h : Tab (kfp kf) df D T) (hT : ∀ x, x ∈ T ↔ x ∈ idx L) (hA : L.Pairwise (fun r s => kf r ≠ kf s)) {x : TR} (hk : WideAt.IsKeyLit (kf x)) (hn : ∀ r ∈ L, kf r ≠ kf x) :
    Tab (kfp kf) df (D.put (kf x) (df (x, L.length))) (idx (L ++ [x])) := by
  have hA' : (L ++ [x]).Pairwise (fun r s => kf r ≠ kf s) := by
    rw [List.pairwise_append]
    exact ⟨hA, List.pairwise_singleton _ _, fun a ha b hb => by rw [List.mem_singleton.1 hb]; exact hn a ha⟩
  refine (h.put (x, L.length) hk).ext (idx_apart hA') ?_
  rintro ⟨r, k⟩
  rw [mem_idx, List.mem_cons, others_mem (kf := kfp kf) (k := kfp kf (x, L.length)) hk, hT, mem_idx]
  show (r, k) = (x, L.length) ∨ L[k]? = some r ∧ kf r ≠ kf x ↔ _
  constructor
  · rintro (h2 | ⟨h2, h3⟩)
    · cases h2; simp
    · rw [List.getElem?_append_left (List.getElem?_eq_some_iff.1 h2).1]; exact h2
  · intro h2
    rw [List.getElem?_append] at h2
    split at h2
    · exact .inr ⟨h2, hn r (List.mem_of_getElem? h2)⟩
    · next hl =>
      obtain ⟨h3, h4⟩ := List.getElem?_eq_some_iff.1 h2
      simp at h3
      have e : k = L.length := by omega
      subst e
      simp at h4
      exact .inl (by rw [h4])
/-- the delete of Pop -/
theorem Tab.pop {L : List TR} {T : List (TR × Nat)} {x : TR} (h : Tab (kfp kf) df D T) (hT : ∀ z, z ∈ T ↔ z ∈ idx (L ++ [x])) (hA : (L ++ [x]).Pairwise (fun r s => kf r ≠ kf s)) (hk : WideAt.IsKeyLit (kf x)) :
    Tab (kfp kf) df (D.del (kf x)) (idx L) := by
  have hA' := (List.pairwise_append.1 hA).1
  have hn : ∀ r ∈ L, kf r ≠ kf x := fun r hr => (List.pairwise_append.1 hA).2.2 r hr x (by simp)
  refine (h.del (kf x)).ext (idx_apart hA') ?_
  rintro ⟨r, k⟩
  rw [mem_idx, others_mem hk, hT, mem_idx]
  show (L ++ [x])[k]? = some r ∧ kf r ≠ kf x ↔ _
  constructor
  · rintro ⟨h2, h3⟩
    rw [List.getElem?_append] at h2
    split at h2
    · exact h2
    · next hl =>
      obtain ⟨h4, h5⟩ := List.getElem?_eq_some_iff.1 h2
      simp at h4
      have e : k - L.length = 0 := by omega
      simp [e] at h5
      rw [h5] at h3
      exact absurd rfl h3
  · intro h2
    rw [List.getElem?_append_left (List.getElem?_eq_some_iff.1 h2).1]
    exact ⟨h2, hn r (List.mem_of_getElem? h2)⟩
/-- another due at a place: the map stays -/
theorem Tab.due {L : List TR} {D : DataW H} {df : TR × Nat → DataW H} {i : Nat} {x y : TR} (h : Tab (kfp kf) df D (idx L)) (hx : L[i]? = some x) (he : kf y = kf x) (hd : ∀ r s k, df (r, k) = df (s, k)) : Tab (kfp kf) df D (idx (L.set i y)) := by
  have hm : (idx (L.set i y)).map (fun r => (kfp kf r, df r)) = (idx L).map (fun r => (kfp kf r, df r)) := by
    apply List.ext_getElem
    · simp
    · intro n h1 h2
      simp at h1 h2
      have hp : ∀ (a b : TR), kf a = kf b → (kf a, df (a, n)) = (kf b, df (b, n)) := fun a b e => by rw [e, hd a b n]
      simp only [List.getElem_map, List.getElem_zipIdx, kfp, Nat.zero_add]
      refine hp _ _ ?_
      rw [List.getElem_set]
      split
      · next e =>
        subst e
        obtain ⟨h3, h4⟩ := List.getElem?_eq_some_iff.1 hx
        rw [he, h4]
      · rfl
  have hk : (idx (L.set i y)).map (kfp kf) = (idx L).map (kfp kf) := by
    have := congrArg (List.map Prod.fst) hm
    simpa [List.map_map, Function.comp_def] using this
  refine ⟨by rw [hm]; exact h.perm, ?_, ?_⟩
  · have := h.apart
    rw [← List.pairwise_map (f := kfp kf) (R := fun a b => a ≠ b), ← hk, List.pairwise_map] at this
    exact this
  · intro r hr
    have : kfp kf r ∈ (idx L).map (kfp kf) := by rw [← hk]; exact List.mem_map.2 ⟨r, hr, rfl⟩
    obtain ⟨s, hs, e⟩ := List.mem_map.1 this
    rw [← e]
    exact h.keys s hs
end
end Go.Proofs.Ytkigoihdmojpfaa
