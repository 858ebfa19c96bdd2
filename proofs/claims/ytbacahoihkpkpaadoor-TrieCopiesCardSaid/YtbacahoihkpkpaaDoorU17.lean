/- Lists of prefixes in memory. -/
import Derived.Test.YtbacahoihkpkpaaDoorU5
namespace Go.Proofs.YtbacahoihkpkpaaDoor
open Go.RowKit Go.Shelf Go.Maps
open Go.Sort (grow)

/-- the cells of prefixes -/
def kC (x : Key) : List Value := [.int .u32 (ka x), .int .i64 x.length]
def kCs (K : List Key) : List Value := K.flatMap kC
theorem kCs_app (K M : List Key) : kCs (K ++ M) = kCs K ++ kCs M := by simp [kCs]
theorem kCs_len (K : List Key) : (kCs K).length = K.length * 2 := by
  induction K with
  | nil => rfl
  | cons q K ih =>
    have e : kCs (q :: K) = .int .u32 (ka q) :: .int .i64 q.length :: kCs K := by simp [kCs, kC]
    rw [e]
    simp [ih]
    omega
theorem kC_one (x : Key) : ∀ u ∈ kC x, u.oneCell' = true := by
  intro u hu
  simp [kC] at hu
  rcases hu with rfl | rfl <;> rfl
theorem kCs_one (K : List Key) : ∀ u ∈ kCs K, u.oneCell' = true := by
  intro u hu
  unfold kCs at hu
  obtain ⟨r, _, hr⟩ := List.mem_flatMap.1 hu
  exact kC_one r u hr
theorem kCs_at {K : List Key} {i : Nat} {x : Key} (h : K[i]? = some x) : (kCs K)[i * 2]? = some (.int .u32 (ka x)) ∧ (kCs K)[i * 2 + 1]? = some (.int .i64 x.length) := by
  induction K generalizing i with
  | nil => simp at h
  | cons q K ih =>
    have e : kCs (q :: K) = .int .u32 (ka q) :: .int .i64 q.length :: kCs K := by simp [kCs, kC]
    cases i with
    | zero => simp at h; subst h; rw [e]; exact ⟨rfl, rfl⟩
    | succ i =>
      simp at h
      obtain ⟨h1, h2⟩ := ih h
      rw [e, show (i + 1) * 2 = i * 2 + 1 + 1 by omega, show i * 2 + 1 + 1 + 1 = (i * 2 + 1) + 1 + 1 by omega]
      simp only [List.getElem?_cons_succ]
      exact ⟨h1, h2⟩
/-- a list of prefixes behind a slice's address -/
structure KL (W : World) (base : Option Addr) (g : Nat) (K : List Key) : Prop where
  lt : g < W.heap.size
  row : ∀ i x, K[i]? = some x → base = some ⟨g, 0, none⟩ ∧ W.cell? ⟨g, i * 2, none⟩ = some (.int .u32 (ka x)) ∧ W.cell? ⟨g, i * 2 + 1, none⟩ = some (.int .i64 x.length)
theorem KL.of_block {W W' : World} {base : Option Addr} {g : Nat} {K : List Key} (h : KL W base g K) (e : W'.heap[g]? = W.heap[g]?) : KL W' base g K := by
  have hl : g < W'.heap.size := by
    have := h.lt
    rcases Nat.lt_or_ge g W'.heap.size with h' | h'
    · exact h'
    · rw [Array.getElem?_eq_none h', Array.getElem?_eq_getElem this] at e; cases e
  have hc : ∀ o, W'.cell? ⟨g, o, none⟩ = W.cell? ⟨g, o, none⟩ := fun o => World.cell?_of_block (w := W) (a := ⟨g, o, none⟩) e
  exact ⟨hl, fun i r hr => by obtain ⟨h0, h1, h2⟩ := h.row i r hr; exact ⟨h0, (hc _).trans h1, (hc _).trans h2⟩⟩
theorem KL.below {W W' : World} {base : Option Addr} {g : Nat} {K : List Key} (h : KL W base g K) (hb : Below W.heap.size W W') : KL W' base g K := h.of_block (hb.block g h.lt)
theorem KL.take {W : World} {base : Option Addr} {g : Nat} {K : List Key} (h : KL W base g K) (n : Nat) : KL W base g (K.take n) :=
  ⟨h.lt, fun i x hx => h.row i x (by rw [List.getElem?_take] at hx; split at hx; exact hx; cases hx)⟩
theorem kl_of_row {W : World} {B : Nat} {v : Value} {e : TypeId} {K : List Key} (h : W.ownsRow B e 2 v K.length (kCs K)) (h0 : 0 < W.heap.size) :
    ∃ (base : Option Addr) (g cap : Nat), v = .slice base K.length cap ∧ KL W base g K ∧ K.length ≤ cap ∧ (base = none ∨ B ≤ g) := by
  rcases h.2 with ⟨rfl, hl⟩ | ⟨g, cap, cur, rfl, hb, hc, h1, h2, h3, h4⟩
  · have : K = [] := List.eq_nil_of_length_eq_zero hl
    subst this
    exact ⟨none, 0, 0, rfl, ⟨h0, fun i r hr => by simp at hr⟩, by simp, .inl rfl⟩
  · refine ⟨some ⟨g, 0, none⟩, g, cap, rfl, ⟨(Array.getElem?_eq_some_iff.1 hc).1, fun i r hr => ⟨rfl, ?_⟩⟩, h1, .inr hb⟩
    obtain ⟨k1, k2⟩ := kCs_at hr
    have ha : ∀ {j : Nat} {u : Value}, (kCs K)[j]? = some u → cur[j]? = some u := fun {j u} hj => by
      rw [← h4, List.getElem?_take] at hj
      split at hj
      · simpa using hj
      · cases hj
    rw [cell_heap hc, cell_heap hc]
    exact ⟨ha k1, ha k2⟩
theorem KL.srcO {W : World} {g o : Nat} {K : List Key} (h : ∀ i x, K[i]? = some x → W.cell? ⟨g, o + i * 2, none⟩ = some (.int .u32 (ka x)) ∧ W.cell? ⟨g, o + i * 2 + 1, none⟩ = some (.int .i64 x.length)) : Src W (some ⟨g, o, none⟩) K.length 2 (kCs K) := by
  refine ⟨kCs_len K, fun j u hj => ⟨_, rfl, ?_⟩⟩
  have hjl := (List.getElem?_eq_some_iff.1 hj).1
  rw [kCs_len] at hjl
  obtain ⟨i, c, hc, rfl⟩ : ∃ i c, c < 2 ∧ j = i * 2 + c := ⟨j / 2, j % 2, by omega, by omega⟩
  have hi : i < K.length := by omega
  obtain ⟨x, hx⟩ : ∃ x, K[i]? = some x := ⟨_, List.getElem?_eq_getElem hi⟩
  obtain ⟨z0, z1⟩ := h i x hx
  obtain ⟨k0, k1⟩ := kCs_at hx
  rw [add0]
  have : c = 0 ∨ c = 1 := by omega
  rcases this with rfl | rfl
  · rw [Nat.add_zero] at hj ⊢; rw [k0] at hj; cases hj; exact z0
  · rw [k1] at hj; cases hj; rw [← Nat.add_assoc]; exact z1
theorem KL.src {W : World} {base : Option Addr} {g : Nat} {K : List Key} (h : KL W base g K) : Src W base K.length 2 (kCs K) := by
  by_cases hK : K = []
  · subst hK
    exact Src.nil _ _
  · obtain ⟨x, hx⟩ := List.exists_mem_of_ne_nil _ hK
    obtain ⟨j, hj, _⟩ := List.mem_iff_getElem.1 hx
    obtain ⟨e, _⟩ := h.row j _ (List.getElem?_eq_getElem hj)
    rw [e]
    exact KL.srcO fun i y hy => by simpa using (h.row i y hy).2
theorem KL.cut {W : World} {base : Option Addr} {g : Nat} {K : List Key} (h : KL W base g K) {k cap : Nat} (hk : k ≤ K.length) (hc : K.length ≤ cap) :
    Src W (if cap = k then base else base.map (·.add (k * 2))) (K.length - k) 2 (kCs (K.drop k)) := by
  by_cases hl : k < K.length
  · rw [if_neg (by omega)]
    obtain ⟨hb, _⟩ := h.row k _ (List.getElem?_eq_getElem hl)
    have h2 := KL.srcO (W := W) (g := g) (o := k * 2) (K := K.drop k) fun i y hy => by
      rw [List.getElem?_drop] at hy
      have := (h.row _ y hy).2
      rw [Nat.add_mul] at this
      exact this
    rw [List.length_drop] at h2
    rw [hb]
    simpa [add0] using h2
  · have e : k = K.length := by omega
    subst e
    rw [List.drop_length, Nat.sub_self]
    exact Src.nil _ _
/-- what Sort and All answer -/
structure KSl (W : World) (v : Value) (K : List Key) : Prop where
  ex : ∃ (base : Option Addr) (g cap : Nat), v = .slice base K.length cap ∧ KL W base g K ∧ K.length ≤ cap
theorem KSl.below {W W' : World} {v : Value} {K : List Key} (h : KSl W v K) (hb : Below W.heap.size W W') : KSl W' v K := by
  obtain ⟨base, g, cap, h1, h2, h3⟩ := h.ex
  exact ⟨base, g, cap, h1, h2.below hb, h3⟩
theorem info26 : (Tryd.prog.info? 26).map (fun i => (i.zero, i.size, i.bytes)) = some (some (.agg #[.int .u32 0, .int .i64 0]), 2, 16) := by kernel_rfl
theorem ord_le (x y : Key) : ordI (ka y) y.length (ka x) x.length ≤ 0 ↔ ¬ klt x y := by
  rw [← ka_ord]
  unfold ordI orI cmpI
  repeat' split
  all_goals omega
end Go.Proofs.YtbacahoihkpkpaaDoor
