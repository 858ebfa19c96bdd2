/- append of what lies behind a slice, nil or not, onto a row of one's own, nil or not. -/
import Derived.Test.YtkigoihdmojpfaaK4
import Derived.Maps.AppendAt
import Derived.Deep.AppendLies
import Derived.Deep.RegionHeld3
namespace Go.Proofs.Ytkigoihdmojpfaa
open Go.RowKit

theorem set_far {W : World} {b b' o o' : Nat} {u : Value} (h : b ≠ b') : (W.setCell ⟨b', o', none⟩ u).cell? ⟨b, o, none⟩ = W.cell? ⟨b, o, none⟩ :=
  World.cell?_setCell_other _ _ _ _ (fun e => h (by injection e with e; first | exact e | exact e.symm))
/-- m elements of some cells each, behind an address (or none are there) -/
def Src (W : World) (A : Option Addr) (m size : Nat) (news : List Value) : Prop :=
  news.length = m * size ∧ ∀ (j : Nat) (u : Value), news[j]? = some u → ∃ ad, A = some ad ∧ W.cell? (ad.add j) = some u
theorem add_blk (a : Addr) (n : Nat) : (a.add n).block = a.block := by unfold Addr.add; split <;> rfl
theorem add0 (g o j : Nat) : (⟨g, o, none⟩ : Addr).add j = ⟨g, o + j, none⟩ := by unfold Addr.add; split <;> simp_all

theorem run_append_src {P : Program} (w : World) (base : Nat) (t ty e : TypeId) (i : TypeInfo) (z : Value) (size bytes : Nat) (ht : P.underlying t = some (.slice e)) (hi : P.info? e = some i) (hz : i.zero = some z)
    (hsize : i.size = size) (hby : i.bytes = bytes) (hzs : z.cells.size = size) (hsz : 0 < size)
    (v : Value) (n : Nat) (xs : List Value) (hown : w.ownsRow base e size v n xs)
    (A : Option Addr) (m c : Nat) (news : List Value) (hv : v ≠ .slice none 0 0 ∨ 0 < m) (hs : Src w A m size news) (h1 : ∀ u ∈ news, u.oneCell' = true)
    (h63 : n + m ≤ maxLen) (hbytes : (n + m) * bytes ≤ 140737488355328) (hbase : base ≤ w.heap.size) :
    ∃ g cap w', (Builtin.append_ #[t, t] ty #[v, .slice A m c]).run P w = .ok (.slice (some ⟨g, 0, none⟩) (n + m) cap) w' ∧ w'.ownsRow base e size (.slice (some ⟨g, 0, none⟩) (n + m) cap) (n + m) (xs ++ news) ∧ w.grownBy w' v.ownBlock ∧ base ≤ g ∧ (v.ownBlock = some g ∨ g = w.heap.size) := by
  cases A with
  | none =>
    have hn : news = [] := by
      cases news with
      | nil => rfl
      | cons u us => obtain ⟨ad, h, _⟩ := hs.2 0 u rfl; cases h
    subst hn
    have hm : m = 0 := by
      have h0 : m * size = 0 := hs.1.symm
      rcases Nat.mul_eq_zero.1 h0 with h | h
      · exact h
      · omega
    subst hm
    have hown' := hown
    rcases hown.2 with ⟨h0, _⟩ | ⟨g, cap, cur, rfl, hb, hh, hnc, h2, h3⟩
    · rcases hv with hv | hv
      · exact absurd h0 hv
      · omega
    · refine ⟨g, cap, w, ?_, by simpa using hown', World.grownBy.refl w _, hb, .inl rfl⟩
      simp [Builtin.append_, run_underlying ht, sizeOf, typeInfo, hi, Builtin.lenOf, Builtin.firstCells, hnc, storeCells]
  | some ad =>
    have hnews : ∀ (j : Nat) (u : Value), news[j]? = some u → w.cell? (ad.add j) = some u := fun j u hj => by
      obtain ⟨ad', h, hc⟩ := hs.2 j u hj
      cases h
      exact hc
    obtain ⟨v', w', hr, h2, h3, h4, h5⟩ := run_append_own_at (P := P) w base t ty e i z size bytes ht hi hz hsize hby hzs hsz v n xs hown ad m c news hs.1 hnews h1 h63 hbytes hbase
    obtain ⟨g, cap, rfl, hg⟩ : ∃ g cap, v' = .slice (some ⟨g, 0, none⟩) (n + m) cap ∧ base ≤ g := by
      rcases h2.2 with ⟨h0, _⟩ | ⟨g, cap, cur, hv, hb, _⟩
      · rcases hv with hv | hv
        · exact absurd (h4.1 h0).1 hv
        · have := (h4.1 h0).2; omega
      · exact ⟨g, cap, hv, hb⟩
    refine ⟨g, cap, w', hr, h2, h3, hg, ?_⟩
    rcases h5 with h5 | h5
    · exact .inl (by rw [← h5]; rfl)
    · exact .inr (by simpa [Value.ownBlock] using h5)

theorem wp_append_src {P : Program} (w : World) {o : Oper} {a : Act} {K : Act → World → Prop} {Q : Exit → Act → World → Prop} (s x : Operand) (t : TypeId)
    (ho : o.op = .call { callee := .builtin .append, args := #[s, x], argTypes := #[t, t] })
    (base : Nat) (e : TypeId) (i : TypeInfo) (z : Value) (size bytes : Nat) (ht : P.underlying t = some (.slice e)) (hi : P.info? e = some i) (hz : i.zero = some z)
    (hsize : i.size = size) (hby : i.bytes = bytes) (hzs : z.cells.size = size) (hsz : 0 < size)
    (v : Value) (n : Nat) (xs : List Value) (hs : a.eval s = v) (hown : w.ownsRow base e size v n xs)
    (A : Option Addr) (m c : Nat) (news : List Value) (hv : v ≠ .slice none 0 0 ∨ 0 < m) (hx : a.eval x = .slice A m c) (hsr : Src w A m size news) (h1 : ∀ u ∈ news, u.oneCell' = true)
    (N : Nat) (hN : n + m = N) (L : List Value) (hL : xs ++ news = L) (h63 : N ≤ maxLen) (hbytes : N * bytes ≤ 140737488355328) (hbase : base ≤ w.heap.size)
    (h : ∀ g cap w', w'.ownsRow base e size (.slice (some ⟨g, 0, none⟩) N cap) N L → w.grownBy w' v.ownBlock → base ≤ g → (v.ownBlock = some g ∨ g = w.heap.size) → K (a.put o.dst (.slice (some ⟨g, 0, none⟩) N cap)) w') :
    Oper.wp P o a w K Q := by
  subst hN
  subst hL
  obtain ⟨g, cap, w', hr, h2, h3, h4, h5⟩ := run_append_src (P := P) w base t o.type e i z size bytes ht hi hz hsize hby hzs hsz v n xs hown A m c news hv hsr h1 h63 hbytes hbase
  unfold Oper.wp execOp
  simp only [ho, resolve, invoke, builtin, Sem.run_bind, Sem.run_pure, Result.andThen_ok, List.map_toArray, List.map_cons, List.map_nil, hs, hx, hr]
  exact h g cap w' h2 h3 h4 h5

/-- at a step of a region that draws -/
theorem step_append_src {P : Program} (w : World) {ops : Array Oper} {o : Oper} {a : Act} {K : Act → World → Prop} {Q : Exit → Act → World → Prop} {E : Prop} (hgd : o.guard = none) (s x : Operand) (t : TypeId)
    (ho : o.op = .call { callee := .builtin .append, args := #[s, x], argTypes := #[t, t] })
    (base : Nat) (e : TypeId) (i : TypeInfo) (z : Value) (size bytes : Nat) (ht : P.underlying t = some (.slice e)) (hi : P.info? e = some i) (hz : i.zero = some z)
    (hsize : i.size = size) (hby : i.bytes = bytes) (hzs : z.cells.size = size) (hsz : 0 < size)
    (v : Value) (n : Nat) (xs : List Value) (hs : a.eval s = v) (hown : w.ownsRow base e size v n xs)
    (A : Option Addr) (m c : Nat) (news : List Value) (hv : v ≠ .slice none 0 0 ∨ 0 < m) (hx : a.eval x = .slice A m c) (hsr : Src w A m size news) (h1 : ∀ u ∈ news, u.oneCell' = true)
    (N : Nat) (hN : n + m = N) (L : List Value) (hL : xs ++ news = L) (h63 : N ≤ maxLen) (hbytes : N * bytes ≤ 140737488355328) (hbase : base ≤ w.heap.size)
    (h : ∀ g cap w', w'.ownsRow base e size (.slice (some ⟨g, 0, none⟩) N cap) N L → w.grownBy w' v.ownBlock → base ≤ g → (v.ownBlock = some g ∨ g = w.heap.size) → K (a.put o.dst (.slice (some ⟨g, 0, none⟩) N cap)) w') :
    if Region.wanted o (yielded ops a.tmps) = true then Oper.wp P o a w K Q else E := by
  have hw : Region.wanted o (yielded ops a.tmps) = true := by simp [Region.wanted, hgd]
  rw [if_pos hw]
  exact wp_append_src w s x t ho base e i z size bytes ht hi hz hsize hby hzs hsz v n xs hs hown A m c news hv hx hsr h1 N hN L hL h63 hbytes hbase h
/-- in a plain region -/
theorem wpList_append_src {P : Program} (w : World) {ops : Array Oper} {rest : List Oper} {o : Oper} {a : Act} {Q : Exit → Act → World → Prop} (hgd : o.guard = none) (s x : Operand) (t : TypeId)
    (ho : o.op = .call { callee := .builtin .append, args := #[s, x], argTypes := #[t, t] })
    (base : Nat) (e : TypeId) (i : TypeInfo) (z : Value) (size bytes : Nat) (ht : P.underlying t = some (.slice e)) (hi : P.info? e = some i) (hz : i.zero = some z)
    (hsize : i.size = size) (hby : i.bytes = bytes) (hzs : z.cells.size = size) (hsz : 0 < size)
    (v : Value) (n : Nat) (xs : List Value) (hs : a.eval s = v) (hown : w.ownsRow base e size v n xs)
    (A : Option Addr) (m c : Nat) (news : List Value) (hv : v ≠ .slice none 0 0 ∨ 0 < m) (hx : a.eval x = .slice A m c) (hsr : Src w A m size news) (h1 : ∀ u ∈ news, u.oneCell' = true)
    (N : Nat) (hN : n + m = N) (L : List Value) (hL : xs ++ news = L) (h63 : N ≤ maxLen) (hbytes : N * bytes ≤ 140737488355328) (hbase : base ≤ w.heap.size)
    (h : ∀ g cap w', w'.ownsRow base e size (.slice (some ⟨g, 0, none⟩) N cap) N L → w.grownBy w' v.ownBlock → base ≤ g → (v.ownBlock = some g ∨ g = w.heap.size) → wpList P ops Q rest (a.put o.dst (.slice (some ⟨g, 0, none⟩) N cap)) w') :
    wpList P ops Q (o :: rest) a w :=
  wpList_plain hgd fun _ hK => wp_append_src w s x t ho base e i z size bytes ht hi hz hsize hby hzs hsz v n xs hs hown A m c news hv hx hsr h1 N hN L hL h63 hbytes hbase fun g cap w' h2 h3 h4 h5 => hK _ _ (h g cap w' h2 h3 h4 h5)

theorem Src.nil {W : World} (A : Option Addr) (size : Nat) : Src W A 0 size [] := ⟨by simp, fun j u h => by simp at h⟩
theorem Src.below {w W : World} {A : Option Addr} {m size : Nat} {news : List Value} (h : Src w A m size news) (hb : Below w.heap.size w W) : Src W A m size news :=
  ⟨h.1, fun j u hj => by obtain ⟨ad, e, hc⟩ := h.2 j u hj; exact ⟨ad, e, (hb.cell (World.block_lt_of_cell? w _ hc)).trans hc⟩⟩
theorem Src.of_cells {W : World} {ad : Addr} {m size : Nat} {news : List Value} (hl : news.length = m * size) (h : ∀ (j : Nat) (u : Value), news[j]? = some u → W.cell? (ad.add j) = some u) : Src W (some ad) m size news :=
  ⟨hl, fun j u hj => ⟨ad, rfl, h j u hj⟩⟩

theorem SL.src {W : World} {base : Option Addr} {g o : Nat} {L : List TR} (h : SL W base g o L) : Src W base L.length 4 (tCs L) := by
  refine ⟨tCs_len L, fun j u hj => ?_⟩
  have hjl := (List.getElem?_eq_some_iff.1 hj).1
  rw [tCs_len] at hjl
  obtain ⟨i, c, hc, rfl⟩ : ∃ i c, c < 4 ∧ j = i * 4 + c := ⟨j / 4, j % 4, by omega, by omega⟩
  have hi : i < L.length := by omega
  obtain ⟨x, hx⟩ : ∃ x, L[i]? = some x := ⟨_, List.getElem?_eq_getElem hi⟩
  obtain ⟨e, z0, z1, z2, z3⟩ := h.row i x hx
  rw [tCs_at hx hc] at hj
  refine ⟨_, e, ?_⟩
  rw [add0]
  have : c = 0 ∨ c = 1 ∨ c = 2 ∨ c = 3 := by omega
  rcases this with rfl | rfl | rfl | rfl <;> simp [tC] at hj <;> subst hj
  · exact z0
  · rw [← Nat.add_assoc]; exact z1
  · rw [← Nat.add_assoc]; exact z2
  · rw [← Nat.add_assoc]; exact z3
/-- as the model cuts a slice -/
theorem SL.cut {W : World} {base : Option Addr} {g o : Nat} {L : List TR} (h : SL W base g o L) {k cap : Nat} (hk : k ≤ L.length) (hc : L.length ≤ cap) :
    Src W (if cap = k then base else base.map (·.add (k * 4))) (L.length - k) 4 (tCs (L.drop k)) := by
  by_cases hl : k < L.length
  · rw [if_neg (by omega)]
    have h2 := (h.from k).src
    rw [List.length_drop] at h2
    obtain ⟨hb, _⟩ := h.row k _ (List.getElem?_eq_getElem hl)
    rw [hb]
    simpa [add0] using h2
  · have e : k = L.length := by omega
    subst e
    rw [List.drop_length, Nat.sub_self]
    exact Src.nil _ _
/-- a new block as a source -/
theorem src_new (w : World) (cs : Array Value) (t : TypeId) (size : Nat) (hs : cs.size = 1 * size) : Src (w.alloc (.cells cs t)) (some ⟨w.heap.size, 0, none⟩) 1 size cs.toList := by
  refine Src.of_cells (by simpa using hs) (fun j u hj => ?_)
  exact World.news_of_block (heap_alloc_new w _) j u hj
end Go.Proofs.Ytkigoihdmojpfaa
