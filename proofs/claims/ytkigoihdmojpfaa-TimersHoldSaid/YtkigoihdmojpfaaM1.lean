/- Plain: a map's datum as a table of records, in whatever order. No program in sight. -/
import Derived.Maps.Views
import Derived.Maps.Ext
import Derived.Lib.SlMapFilter
namespace Go.Proofs.Ytkigoihdmojpfaa
open Go.Maps (has size)

section
variable {H α : Type} {kf : α → Lit} {df : α → DataW H} {D : DataW H} {T : List α}

/-- the map reads as these records -/
structure Tab (kf : α → Lit) (df : α → DataW H) (D : DataW H) (T : List α) : Prop where
  perm : ∃ es, D = .map es ∧ es.Perm (T.map fun r => (kf r, df r))
  apart : T.Pairwise (fun r s => kf r ≠ kf s)
  keys : ∀ r ∈ T, WideAt.IsKeyLit (kf r)

theorem tab_empty : Tab kf df (.map []) [] := ⟨⟨[], rfl, .refl _⟩, List.Pairwise.nil, fun _ h => by cases h⟩

theorem Tab.size (h : Tab kf df D T) : Maps.size D = T.length := by
  obtain ⟨es, rfl, hp⟩ := h.perm
  rw [Maps.size_eq, hp.length_eq, List.length_map]

theorem Tab.isMap (h : Tab kf df D T) : Maps.IsMap D := by
  obtain ⟨es, rfl, _⟩ := h.perm
  exact ⟨es, rfl⟩

theorem Tab.has (h : Tab kf df D T) (k : Lit) : Maps.has D k = T.any (fun r => (kf r).sameKey k) := by
  obtain ⟨es, rfl, hp⟩ := h.perm
  rw [Maps.has_eq, hp.any_eq, List.any_map]
  rfl

theorem Tab.has_mem (h : Tab kf df D T) {r : α} (hr : r ∈ T) : Maps.has D (kf r) = true := by
  rw [h.has]
  exact List.any_eq_true.2 ⟨r, hr, WideAt.sameKey_self (h.keys r hr)⟩
theorem Tab.has_not (h : Tab kf df D T) {k : Lit} (hn : ∀ r ∈ T, kf r ≠ k) : Maps.has D k = false := by
  rw [h.has, List.any_eq_false]
  intro r hr hs
  exact hn r hr (WideAt.sameKey_eq hs)
theorem Tab.of_has (h : Tab kf df D T) {k : Lit} (hk : Maps.has D k = true) : ∃ r ∈ T, kf r = k := by
  rw [h.has] at hk
  obtain ⟨r, hr, hs⟩ := List.any_eq_true.1 hk
  exact ⟨r, hr, WideAt.sameKey_eq hs⟩

theorem Tab.at (h : Tab kf df D T) {r : α} (hr : r ∈ T) (z : DataW H) : D.atKey (kf r) z = df r := by
  obtain ⟨es, rfl, hp⟩ := h.perm
  have hap : es.Pairwise (fun p q => p.1 ≠ q.1) := by
    refine (hp.symm.pairwise_iff (fun {a b} (h : a.1 ≠ b.1) => h.symm)).1 ?_
    rw [List.pairwise_map]
    exact h.apart
  exact WideAt.atKey_mem z (h.keys r hr) hap (hp.symm.mem_iff.1 (List.mem_map.2 ⟨r, hr, rfl⟩))
theorem Tab.at_not (h : Tab kf df D T) {k : Lit} (hn : ∀ r ∈ T, kf r ≠ k) (z : DataW H) : D.atKey k z = z :=
  Maps.atKey_of_not_has (h.has_not hn) z

theorem Tab.reorder (h : Tab kf df D T) {T' : List α} (hp : T.Perm T') : Tab kf df D T' := by
  obtain ⟨es, rfl, hq⟩ := h.perm
  exact ⟨⟨es, rfl, hq.trans (hp.map _)⟩, (hp.pairwise_iff (fun {a b} (h : kf a ≠ kf b) => h.symm)).1 h.apart, fun r hr => h.keys r (hp.symm.mem_iff.1 hr)⟩

/-- the others -/
def others (kf : α → Lit) (k : Lit) (T : List α) : List α := T.filter fun s => !(kf s).sameKey k

theorem others_mem {k : Lit} {s : α} (hk : WideAt.IsKeyLit k) : s ∈ others kf k T ↔ s ∈ T ∧ kf s ≠ k := by
  unfold others
  rw [List.mem_filter]
  constructor
  · rintro ⟨h1, h2⟩
    refine ⟨h1, fun e => ?_⟩
    rw [e, WideAt.sameKey_self hk] at h2
    cases h2
  · rintro ⟨h1, h2⟩
    refine ⟨h1, ?_⟩
    cases hs : (kf s).sameKey k with
    | false => rfl
    | true => exact absurd (WideAt.sameKey_eq hs) h2

theorem Tab.put (h : Tab kf df D T) (r : α) (hk : WideAt.IsKeyLit (kf r)) : Tab kf df (D.put (kf r) (df r)) (r :: others kf (kf r) T) := by
  obtain ⟨es, rfl, hp⟩ := h.perm
  refine ⟨⟨_, rfl, (WideShapes.insert_perm _ _).trans ?_⟩, ?_, ?_⟩
  · rw [List.map_cons]
    refine List.Perm.cons _ ?_
    have e : (others kf (kf r) T).map (fun r => (kf r, df r)) = (T.map fun r => (kf r, df r)).filter (fun p => !p.1.sameKey (kf r)) := by
      unfold others
      rw [List.filter_map]
      rfl
    rw [e]
    exact hp.filter _
  · rw [List.pairwise_cons]
    exact ⟨fun s hs => ((others_mem hk).1 hs).2.symm, h.apart.filter _⟩
  · intro s hs
    rcases List.mem_cons.1 hs with rfl | hs
    · exact hk
    · exact h.keys s ((others_mem hk).1 hs).1

theorem Tab.filter (h : Tab kf df D T) (pd : Lit → DataW H → Bool) (p : α → Bool) (hp : ∀ r ∈ T, pd (kf r) (df r) = p r) : Tab kf df (Lib.deleteFuncD pd D) (T.filter fun r => !p r) := by
  obtain ⟨es, rfl, hq⟩ := h.perm
  refine ⟨⟨_, rfl, ?_⟩, h.apart.filter _, fun r hr => h.keys r (List.mem_filter.1 hr).1⟩
  have e : (T.filter fun r => !p r).map (fun r => (kf r, df r)) = (T.map fun r => (kf r, df r)).filter (fun q => !pd q.1 q.2) := by
    rw [List.filter_map]
    congr 1
    refine List.filter_congr fun r hr => ?_
    show (!p r) = !pd (kf r) (df r)
    rw [hp r hr]
  rw [e]
  exact hq.filter _

theorem Tab.del (h : Tab kf df D T) (k : Lit) : Tab kf df (D.del k) (others kf k T) := by
  obtain ⟨es, rfl, hq⟩ := h.perm
  refine ⟨⟨_, rfl, ?_⟩, h.apart.filter _, fun r hr => h.keys r (List.mem_filter.1 hr).1⟩
  have e : (others kf k T).map (fun r => (kf r, df r)) = (T.map fun r => (kf r, df r)).filter (fun p => !p.1.sameKey k) := by
    unfold others
    rw [List.filter_map]
    rfl
  rw [e]
  exact hq.filter _
end
end Go.Proofs.Ytkigoihdmojpfaa
