/- Lists of prefixes in memory; appends. (Printed by gen_q0.py.) -/
import Derived.Test.YtmmoccceafcfkaaDoorS2
import Derived.Test.YtmmoccceafcfkaaDoorE3
import Derived.Deep.AppendLies
import Derived.Deep.CutBlock
import Derived.Deep.DeepCutAuto
import Derived.Deep.RegionHeld3
import Derived.Maps.AppendAt
namespace Go.Proofs.YtmmoccceafcfkaaDoor
open Go.RowKit Go.Shelf Go.Maps
open Go.Sort (grow)

theorem cellL {w w' : World} (hb : Below w.heap.size w w') {a : Addr} {v : Value} (h : w.cell? a = some v) : w'.cell? a = some v :=
  (hb.cell (World.block_lt_of_cell? w a h)).trans h
theorem set_far {W : World} {b b' o o' : Nat} {u : Value} (h : b ≠ b') : (W.setCell ⟨b', o', none⟩ u).cell? ⟨b, o, none⟩ = W.cell? ⟨b, o, none⟩ :=
  World.cell?_setCell_other _ _ _ _ (fun e => h (by injection e with e; first | exact e | exact e.symm))
/-- m elements of some cells each, behind an address (or none are there) -/
def Src (W : World) (A : Option Addr) (m size : Nat) (news : List Value) : Prop :=
  news.length = m * size ∧ ∀ (j : Nat) (u : Value), news[j]? = some u → ∃ ad, A = some ad ∧ W.cell? (ad.add j) = some u
theorem add_blk (a : Addr) (n : Nat) : (a.add n).block = a.block := by unfold Addr.add; split <;> rfl
theorem add0 (g o j : Nat) : (⟨g, o, none⟩ : Addr).add j = ⟨g, o + j, none⟩ := by unfold Addr.add; split <;> simp_all

theorem run_append_src {P : Program} (w : World) (base : Nat) (t ty e : TypeId) (i : TypeInfo) (z : Value) (size bytes : Nat) (ht : P.underlying t = some (.slice e)) (hi : P.info? e = some i) (hz : i.zero = some z)
    (hsize : i.size = size) (hby : i.bytes = bytes) (hzs : z.cells.size = size) (hsz : 0 < size)
    (v : Value) (n : Nat) (xs : List Value) (hown : w.ownsRow base e size v n xs) (hv : v ≠ .slice none 0 0)
    (A : Option Addr) (m c : Nat) (news : List Value) (hs : Src w A m size news) (h1 : ∀ u ∈ news, u.oneCell' = true)
    (h63 : n + m ≤ maxLen) (hbytes : (n + m) * bytes ≤ 140737488355328) (hbase : base ≤ w.heap.size) :
    ∃ g cap w', (Builtin.append_ #[t, t] ty #[v, .slice A m c]).run P w = .ok (.slice (some ⟨g, 0, none⟩) (n + m) cap) w' ∧ w'.ownsRow base e size (.slice (some ⟨g, 0, none⟩) (n + m) cap) (n + m) (xs ++ news) ∧ w.grownBy w' v.ownBlock ∧ base ≤ g ∧ (v.ownBlock = some g ∨ g = w.heap.size) := by
  cases A with
  | none =>
    have hn : news = [] := by
      cases news with
      | nil => rfl
      | cons u us => obtain ⟨ad, h, _⟩ := hs.2 0 u rfl; cases h
    subst hn
    have hm : m = 0 := by
      have h0 : m * size = 0 := hs.1.symm
      rcases Nat.mul_eq_zero.1 h0 with h | h
      · exact h
      · omega
    subst hm
    have hown' := hown
    rcases hown.2 with ⟨h0, _⟩ | ⟨g, cap, cur, rfl, hb, hh, hnc, h2, h3⟩
    · exact absurd h0 hv
    · refine ⟨g, cap, w, ?_, by simpa using hown', World.grownBy.refl w _, hb, .inl rfl⟩
      simp [Builtin.append_, run_underlying ht, sizeOf, typeInfo, hi, Builtin.lenOf, Builtin.firstCells, hnc, storeCells]
  | some ad =>
    have hnews : ∀ (j : Nat) (u : Value), news[j]? = some u → w.cell? (ad.add j) = some u := fun j u hj => by
      obtain ⟨ad', h, hc⟩ := hs.2 j u hj
      cases h
      exact hc
    obtain ⟨v', w', hr, h2, h3, h4, h5⟩ := run_append_own_at (P := P) w base t ty e i z size bytes ht hi hz hsize hby hzs hsz v n xs hown ad m c news hs.1 hnews h1 h63 hbytes hbase
    obtain ⟨g, cap, rfl, hg⟩ : ∃ g cap, v' = .slice (some ⟨g, 0, none⟩) (n + m) cap ∧ base ≤ g := by
      rcases h2.2 with ⟨h0, _⟩ | ⟨g, cap, cur, hv, hb, _⟩
      · exact absurd (h4.1 h0).1 hv
      · exact ⟨g, cap, hv, hb⟩
    refine ⟨g, cap, w', hr, h2, h3, hg, ?_⟩
    rcases h5 with h5 | h5
    · exact .inl (by rw [← h5]; rfl)
    · exact .inr (by simpa [Value.ownBlock] using h5)

theorem wp_append_src {P : Program} (w : World) {o : Oper} {a : Act} {K : Act → World → Prop} {Q : Exit → Act → World → Prop} (s x : Operand) (t : TypeId)
    (ho : o.op = .call { callee := .builtin .append, args := #[s, x], argTypes := #[t, t] })
    (base : Nat) (e : TypeId) (i : TypeInfo) (z : Value) (size bytes : Nat) (ht : P.underlying t = some (.slice e)) (hi : P.info? e = some i) (hz : i.zero = some z)
    (hsize : i.size = size) (hby : i.bytes = bytes) (hzs : z.cells.size = size) (hsz : 0 < size)
    (v : Value) (n : Nat) (xs : List Value) (hs : a.eval s = v) (hown : w.ownsRow base e size v n xs) (hv : v ≠ .slice none 0 0)
    (A : Option Addr) (m c : Nat) (news : List Value) (hx : a.eval x = .slice A m c) (hsr : Src w A m size news) (h1 : ∀ u ∈ news, u.oneCell' = true)
    (N : Nat) (hN : n + m = N) (L : List Value) (hL : xs ++ news = L) (h63 : N ≤ maxLen) (hbytes : N * bytes ≤ 140737488355328) (hbase : base ≤ w.heap.size)
    (h : ∀ g cap w', w'.ownsRow base e size (.slice (some ⟨g, 0, none⟩) N cap) N L → w.grownBy w' v.ownBlock → base ≤ g → (v.ownBlock = some g ∨ g = w.heap.size) → K (a.put o.dst (.slice (some ⟨g, 0, none⟩) N cap)) w') :
    Oper.wp P o a w K Q := by
  subst hN
  subst hL
  obtain ⟨g, cap, w', hr, h2, h3, h4, h5⟩ := run_append_src (P := P) w base t o.type e i z size bytes ht hi hz hsize hby hzs hsz v n xs hown hv A m c news hsr h1 h63 hbytes hbase
  unfold Oper.wp execOp
  simp only [ho, resolve, invoke, builtin, Sem.run_bind, Sem.run_pure, Result.andThen_ok, List.map_toArray, List.map_cons, List.map_nil, hs, hx, hr]
  exact h g cap w' h2 h3 h4 h5

/-- at a step of a region that draws -/
theorem step_append_src {P : Program} (w : World) {ops : Array Oper} {o : Oper} {a : Act} {K : Act → World → Prop} {Q : Exit → Act → World → Prop} {E : Prop} (hgd : o.guard = none) (s x : Operand) (t : TypeId)
    (ho : o.op = .call { callee := .builtin .append, args := #[s, x], argTypes := #[t, t] })
    (base : Nat) (e : TypeId) (i : TypeInfo) (z : Value) (size bytes : Nat) (ht : P.underlying t = some (.slice e)) (hi : P.info? e = some i) (hz : i.zero = some z)
    (hsize : i.size = size) (hby : i.bytes = bytes) (hzs : z.cells.size = size) (hsz : 0 < size)
    (v : Value) (n : Nat) (xs : List Value) (hs : a.eval s = v) (hown : w.ownsRow base e size v n xs) (hv : v ≠ .slice none 0 0)
    (A : Option Addr) (m c : Nat) (news : List Value) (hx : a.eval x = .slice A m c) (hsr : Src w A m size news) (h1 : ∀ u ∈ news, u.oneCell' = true)
    (N : Nat) (hN : n + m = N) (L : List Value) (hL : xs ++ news = L) (h63 : N ≤ maxLen) (hbytes : N * bytes ≤ 140737488355328) (hbase : base ≤ w.heap.size)
    (h : ∀ g cap w', w'.ownsRow base e size (.slice (some ⟨g, 0, none⟩) N cap) N L → w.grownBy w' v.ownBlock → base ≤ g → (v.ownBlock = some g ∨ g = w.heap.size) → K (a.put o.dst (.slice (some ⟨g, 0, none⟩) N cap)) w') :
    if Region.wanted o (yielded ops a.tmps) = true then Oper.wp P o a w K Q else E := by
  have hw : Region.wanted o (yielded ops a.tmps) = true := by simp [Region.wanted, hgd]
  rw [if_pos hw]
  exact wp_append_src w s x t ho base e i z size bytes ht hi hz hsize hby hzs hsz v n xs hs hown hv A m c news hx hsr h1 N hN L hL h63 hbytes hbase h
/-- in a plain region -/
theorem wpList_append_src {P : Program} (w : World) {ops : Array Oper} {rest : List Oper} {o : Oper} {a : Act} {Q : Exit → Act → World → Prop} (hgd : o.guard = none) (s x : Operand) (t : TypeId)
    (ho : o.op = .call { callee := .builtin .append, args := #[s, x], argTypes := #[t, t] })
    (base : Nat) (e : TypeId) (i : TypeInfo) (z : Value) (size bytes : Nat) (ht : P.underlying t = some (.slice e)) (hi : P.info? e = some i) (hz : i.zero = some z)
    (hsize : i.size = size) (hby : i.bytes = bytes) (hzs : z.cells.size = size) (hsz : 0 < size)
    (v : Value) (n : Nat) (xs : List Value) (hs : a.eval s = v) (hown : w.ownsRow base e size v n xs) (hv : v ≠ .slice none 0 0)
    (A : Option Addr) (m c : Nat) (news : List Value) (hx : a.eval x = .slice A m c) (hsr : Src w A m size news) (h1 : ∀ u ∈ news, u.oneCell' = true)
    (N : Nat) (hN : n + m = N) (L : List Value) (hL : xs ++ news = L) (h63 : N ≤ maxLen) (hbytes : N * bytes ≤ 140737488355328) (hbase : base ≤ w.heap.size)
    (h : ∀ g cap w', w'.ownsRow base e size (.slice (some ⟨g, 0, none⟩) N cap) N L → w.grownBy w' v.ownBlock → base ≤ g → (v.ownBlock = some g ∨ g = w.heap.size) → wpList P ops Q rest (a.put o.dst (.slice (some ⟨g, 0, none⟩) N cap)) w') :
    wpList P ops Q (o :: rest) a w :=
  wpList_plain hgd fun _ hK => wp_append_src w s x t ho base e i z size bytes ht hi hz hsize hby hzs hsz v n xs hs hown hv A m c news hx hsr h1 N hN L hL h63 hbytes hbase fun g cap w' h2 h3 h4 h5 => hK _ _ (h g cap w' h2 h3 h4 h5)

theorem Src.nil {W : World} (A : Option Addr) (size : Nat) : Src W A 0 size [] := ⟨by simp, fun j u h => by simp at h⟩
theorem Src.below {w W : World} {A : Option Addr} {m size : Nat} {news : List Value} (h : Src w A m size news) (hb : Below w.heap.size w W) : Src W A m size news :=
  ⟨h.1, fun j u hj => by obtain ⟨ad, e, hc⟩ := h.2 j u hj; exact ⟨ad, e, (hb.cell (World.block_lt_of_cell? w _ hc)).trans hc⟩⟩
theorem Src.of_cells {W : World} {ad : Addr} {m size : Nat} {news : List Value} (hl : news.length = m * size) (h : ∀ (j : Nat) (u : Value), news[j]? = some u → W.cell? (ad.add j) = some u) : Src W (some ad) m size news :=
  ⟨hl, fun j u hj => ⟨ad, rfl, h j u hj⟩⟩
theorem row_below {W W' : World} {B n size : Nat} {e : TypeId} {v : Value} {xs : List Value} (h : W.ownsRow B e size v n xs) (hb : Below W.heap.size W W') : W'.ownsRow B e size v n xs :=
  h.kept (row := none) (below_grownBy hb) (by cases hv : v.ownBlock <;> simp)
theorem cell_heap {W : World} {b o : Nat} {cs : Array Value} {t : TypeId} {fz : Nat × Nat} (h : W.heap[b]? = some (.cells cs t fz)) : W.cell? ⟨b, o, none⟩ = cs[o]? := by simp [World.cell?, h]
theorem src_new (w : World) (cs : Array Value) (t : TypeId) (size : Nat) (h : cs.size = size) : Src (w.alloc (.cells cs t)) (some ⟨w.heap.size, 0, none⟩) 1 size cs.toList := by
  refine Src.of_cells (by simpa using h) fun j u hj => ?_
  rw [add0, Nat.zero_add]
  have hb : (w.alloc (.cells cs t)).heap[w.heap.size]? = some (.cells cs t (0, 0)) := World.alloc_heap_new w _
  rw [cell_heap hb]
  simpa using hj
theorem Src.grown {w W : World} {b o m size : Nat} {news : List Value} {r : Option Nat} (h : Src w (some ⟨b, o, none⟩) m size news) (hg : w.grownBy W r) (hr : r ≠ some b) : Src W (some ⟨b, o, none⟩) m size news :=
  ⟨h.1, fun j u hj => by
    obtain ⟨ad, e, hc⟩ := h.2 j u hj
    cases e
    exact ⟨_, rfl, hg.cell hc (by rw [add_blk]; exact fun e => hr e.symm)⟩⟩
theorem plt_irrefl (x : Pf) : ¬ plt x x := by unfold plt; omega
theorem plt_asymm {x y : Pf} (h : plt x y) : ¬ plt y x := by unfold plt at *; omega
theorem plt_trans {x y z : Pf} (h : plt x y) (k : plt y z) : plt x z := by unfold plt at *; omega
theorem plt_tri {x y : Pf} (h1 : ¬ plt x y) (h2 : ¬ plt y x) : x = y := by
  obtain ⟨a, b⟩ := x
  obtain ⟨c, d⟩ := y
  unfold plt at *
  simp only at h1 h2
  have h3 : a = c := by omega
  have h4 : b = d := by omega
  rw [h3, h4]
/-- two lists in order with the same members are the same -/
theorem ord_ext {α : Type} {R : α → α → Prop} (hi : ∀ a, ¬ R a a) (ha : ∀ a b, R a b → ¬ R b a) {L M : List α} (h1 : L.Pairwise R) (h2 : M.Pairwise R) (h : ∀ x, x ∈ L ↔ x ∈ M) : L = M := by
  induction L generalizing M with
  | nil =>
    cases M with
    | nil => rfl
    | cons y M => exact absurd ((h y).2 (List.mem_cons_self ..)) (by simp)
  | cons x L ih =>
    cases M with
    | nil => exact absurd ((h x).1 (List.mem_cons_self ..)) (by simp)
    | cons y M =>
      rw [List.pairwise_cons] at h1 h2
      have e : x = y := by
        rcases List.mem_cons.1 ((h x).1 (List.mem_cons_self ..)) with e | e
        · exact e
        · rcases List.mem_cons.1 ((h y).2 (List.mem_cons_self ..)) with e2 | e2
          · exact e2.symm
          · exact absurd (h1.1 _ e2) (ha _ _ (h2.1 _ e))
      subst e
      congr 1
      refine ih h1.2 h2.2 fun z => ⟨fun hz => ?_, fun hz => ?_⟩
      · rcases List.mem_cons.1 ((h z).1 (List.mem_cons_of_mem _ hz)) with e | e
        · subst e; exact absurd (h1.1 _ hz) (hi _)
        · exact e
      · rcases List.mem_cons.1 ((h z).2 (List.mem_cons_of_mem _ hz)) with e | e
        · subst e; exact absurd (h2.1 _ hz) (hi _)
        · exact e
/-- a list in order, each once -/
def OrdP (M : List Pf) : Prop := M.Pairwise plt
theorem ordP_ext {L M : List Pf} (h1 : OrdP L) (h2 : OrdP M) (h : ∀ x, x ∈ L ↔ x ∈ M) : L = M :=
  ord_ext (fun _ => plt_irrefl _) (fun _ _ => plt_asymm) h1 h2 h
theorem insK_ok {M : List Pf} (hO : OrdP M) {p : Pf} {n : Nat} (h1 : ∀ x ∈ M.take n, plt x p) (h2 : ∀ x, M[n]? = some x → plt p x) :
    OrdP (M.take n ++ p :: M.drop n) ∧ ∀ x, x ∈ M.take n ++ p :: M.drop n ↔ x = p ∨ x ∈ M := by
  have hsplit := List.take_append_drop n M
  have hO2 := hO
  rw [← hsplit] at hO2
  unfold OrdP at hO2
  rw [List.pairwise_append] at hO2
  have hd : ∀ x ∈ M.drop n, plt p x := by
    intro x hx
    rcases Nat.lt_or_ge n M.length with h | h
    · rw [List.drop_eq_getElem_cons h] at hx hO2
      have e := h2 _ (List.getElem?_eq_getElem h)
      rcases List.mem_cons.1 hx with rfl | hx
      · exact e
      · exact plt_trans e ((List.pairwise_cons.1 hO2.2.1).1 x hx)
    · rw [List.drop_of_length_le h] at hx; simp at hx
  constructor
  · unfold OrdP
    rw [List.pairwise_append, List.pairwise_cons]
    refine ⟨hO2.1, ⟨hd, hO2.2.1⟩, fun x hx y hy => ?_⟩
    rcases List.mem_cons.1 hy with rfl | hy
    · exact h1 x hx
    · exact hO2.2.2 x hx y hy
  · intro x
    have hm : x ∈ M ↔ x ∈ M.take n ∨ x ∈ M.drop n := by rw [← List.mem_append, hsplit]
    rw [List.mem_append, List.mem_cons, hm]
    constructor
    · rintro (h | h | h)
      · exact .inr (.inl h)
      · exact .inl h
      · exact .inr (.inr h)
    · rintro (h | h | h)
      · exact .inr (.inl h)
      · exact .inl h
      · exact .inr (.inr h)
/-- the cells of prefixes -/
def kC (x : Pf) : List Value := [.int .u32 x.1, .int .i64 x.2]
def kCs (K : List Pf) : List Value := K.flatMap kC
theorem kCs_app (K M : List Pf) : kCs (K ++ M) = kCs K ++ kCs M := by simp [kCs]
theorem kCs_len (K : List Pf) : (kCs K).length = K.length * 2 := by
  induction K with
  | nil => rfl
  | cons q K ih =>
    have e : kCs (q :: K) = .int .u32 (q.1) :: .int .i64 q.2 :: kCs K := by simp [kCs, kC]
    rw [e]
    simp [ih]
    omega
theorem kC_one (x : Pf) : ∀ u ∈ kC x, u.oneCell' = true := by
  intro u hu
  simp [kC] at hu
  rcases hu with rfl | rfl <;> rfl
theorem kCs_one (K : List Pf) : ∀ u ∈ kCs K, u.oneCell' = true := by
  intro u hu
  unfold kCs at hu
  obtain ⟨r, _, hr⟩ := List.mem_flatMap.1 hu
  exact kC_one r u hr
theorem kCs_at {K : List Pf} {i : Nat} {x : Pf} (h : K[i]? = some x) : (kCs K)[i * 2]? = some (.int .u32 x.1) ∧ (kCs K)[i * 2 + 1]? = some (.int .i64 x.2) := by
  induction K generalizing i with
  | nil => simp at h
  | cons q K ih =>
    have e : kCs (q :: K) = .int .u32 (q.1) :: .int .i64 q.2 :: kCs K := by simp [kCs, kC]
    cases i with
    | zero => simp at h; subst h; rw [e]; exact ⟨rfl, rfl⟩
    | succ i =>
      simp at h
      obtain ⟨h1, h2⟩ := ih h
      rw [e, show (i + 1) * 2 = i * 2 + 1 + 1 by omega, show i * 2 + 1 + 1 + 1 = (i * 2 + 1) + 1 + 1 by omega]
      simp only [List.getElem?_cons_succ]
      exact ⟨h1, h2⟩
/-- a list of prefixes behind a slice's address -/
structure KL (W : World) (base : Option Addr) (g : Nat) (K : List Pf) : Prop where
  lt : g < W.heap.size
  row : ∀ i x, K[i]? = some x → base = some ⟨g, 0, none⟩ ∧ W.cell? ⟨g, i * 2, none⟩ = some (.int .u32 x.1) ∧ W.cell? ⟨g, i * 2 + 1, none⟩ = some (.int .i64 x.2)
theorem KL.of_block {W W' : World} {base : Option Addr} {g : Nat} {K : List Pf} (h : KL W base g K) (e : W'.heap[g]? = W.heap[g]?) : KL W' base g K := by
  have hl : g < W'.heap.size := by
    have := h.lt
    rcases Nat.lt_or_ge g W'.heap.size with h' | h'
    · exact h'
    · rw [Array.getElem?_eq_none h', Array.getElem?_eq_getElem this] at e; cases e
  have hc : ∀ o, W'.cell? ⟨g, o, none⟩ = W.cell? ⟨g, o, none⟩ := fun o => World.cell?_of_block (w := W) (a := ⟨g, o, none⟩) e
  exact ⟨hl, fun i r hr => by obtain ⟨h0, h1, h2⟩ := h.row i r hr; exact ⟨h0, (hc _).trans h1, (hc _).trans h2⟩⟩
theorem KL.below {W W' : World} {base : Option Addr} {g : Nat} {K : List Pf} (h : KL W base g K) (hb : Below W.heap.size W W') : KL W' base g K := h.of_block (hb.block g h.lt)
theorem KL.take {W : World} {base : Option Addr} {g : Nat} {K : List Pf} (h : KL W base g K) (n : Nat) : KL W base g (K.take n) :=
  ⟨h.lt, fun i x hx => h.row i x (by rw [List.getElem?_take] at hx; split at hx; exact hx; cases hx)⟩
theorem kl_of_row {W : World} {B : Nat} {v : Value} {e : TypeId} {K : List Pf} (h : W.ownsRow B e 2 v K.length (kCs K)) (h0 : 0 < W.heap.size) :
    ∃ (base : Option Addr) (g cap : Nat), v = .slice base K.length cap ∧ KL W base g K ∧ K.length ≤ cap ∧ (base = none ∨ B ≤ g) := by
  rcases h.2 with ⟨rfl, hl⟩ | ⟨g, cap, cur, rfl, hb, hc, h1, h2, h3, h4⟩
  · have : K = [] := List.eq_nil_of_length_eq_zero hl
    subst this
    exact ⟨none, 0, 0, rfl, ⟨h0, fun i r hr => by simp at hr⟩, by simp, .inl rfl⟩
  · refine ⟨some ⟨g, 0, none⟩, g, cap, rfl, ⟨(Array.getElem?_eq_some_iff.1 hc).1, fun i r hr => ⟨rfl, ?_⟩⟩, h1, .inr hb⟩
    obtain ⟨k1, k2⟩ := kCs_at hr
    have ha : ∀ {j : Nat} {u : Value}, (kCs K)[j]? = some u → cur[j]? = some u := fun {j u} hj => by
      rw [← h4, List.getElem?_take] at hj
      split at hj
      · simpa using hj
      · cases hj
    rw [cell_heap hc, cell_heap hc]
    exact ⟨ha k1, ha k2⟩
theorem KL.srcO {W : World} {g o : Nat} {K : List Pf} (h : ∀ i x, K[i]? = some x → W.cell? ⟨g, o + i * 2, none⟩ = some (.int .u32 x.1) ∧ W.cell? ⟨g, o + i * 2 + 1, none⟩ = some (.int .i64 x.2)) : Src W (some ⟨g, o, none⟩) K.length 2 (kCs K) := by
  refine ⟨kCs_len K, fun j u hj => ⟨_, rfl, ?_⟩⟩
  have hjl := (List.getElem?_eq_some_iff.1 hj).1
  rw [kCs_len] at hjl
  obtain ⟨i, c, hc, rfl⟩ : ∃ i c, c < 2 ∧ j = i * 2 + c := ⟨j / 2, j % 2, by omega, by omega⟩
  have hi : i < K.length := by omega
  obtain ⟨x, hx⟩ : ∃ x, K[i]? = some x := ⟨_, List.getElem?_eq_getElem hi⟩
  obtain ⟨z0, z1⟩ := h i x hx
  obtain ⟨k0, k1⟩ := kCs_at hx
  rw [add0]
  have : c = 0 ∨ c = 1 := by omega
  rcases this with rfl | rfl
  · rw [Nat.add_zero] at hj ⊢; rw [k0] at hj; cases hj; exact z0
  · rw [k1] at hj; cases hj; rw [← Nat.add_assoc]; exact z1
theorem KL.src {W : World} {base : Option Addr} {g : Nat} {K : List Pf} (h : KL W base g K) : Src W base K.length 2 (kCs K) := by
  by_cases hK : K = []
  · subst hK
    exact Src.nil _ _
  · obtain ⟨x, hx⟩ := List.exists_mem_of_ne_nil _ hK
    obtain ⟨j, hj, _⟩ := List.mem_iff_getElem.1 hx
    obtain ⟨e, _⟩ := h.row j _ (List.getElem?_eq_getElem hj)
    rw [e]
    exact KL.srcO fun i y hy => by simpa using (h.row i y hy).2
theorem KL.cut {W : World} {base : Option Addr} {g : Nat} {K : List Pf} (h : KL W base g K) {k cap : Nat} (hk : k ≤ K.length) (hc : K.length ≤ cap) :
    Src W (if cap = k then base else base.map (·.add (k * 2))) (K.length - k) 2 (kCs (K.drop k)) := by
  by_cases hl : k < K.length
  · rw [if_neg (by omega)]
    obtain ⟨hb, _⟩ := h.row k _ (List.getElem?_eq_getElem hl)
    have h2 := KL.srcO (W := W) (g := g) (o := k * 2) (K := K.drop k) fun i y hy => by
      rw [List.getElem?_drop] at hy
      have := (h.row _ y hy).2
      rw [Nat.add_mul] at this
      exact this
    rw [List.length_drop] at h2
    rw [hb]
    simpa [add0] using h2
  · have e : k = K.length := by omega
    subst e
    rw [List.drop_length, Nat.sub_self]
    exact Src.nil _ _
/-- what Sort and All answer -/
structure KSl (W : World) (v : Value) (K : List Pf) : Prop where
  ex : ∃ (base : Option Addr) (g cap : Nat), v = .slice base K.length cap ∧ KL W base g K ∧ K.length ≤ cap
theorem KSl.below {W W' : World} {v : Value} {K : List Pf} (h : KSl W v K) (hb : Below W.heap.size W W') : KSl W' v K := by
  obtain ⟨base, g, cap, h1, h2, h3⟩ := h.ex
  exact ⟨base, g, cap, h1, h2.below hb, h3⟩
/-- a list of prefixes behind a slice's address, from a place of its block on -/
structure KO (W : World) (base : Option Addr) (g o : Nat) (K : List Pf) : Prop where
  lt : g < W.heap.size
  row : ∀ i x, K[i]? = some x → base = some ⟨g, o, none⟩ ∧ W.cell? ⟨g, o + i * 2, none⟩ = some (.int .u32 x.1) ∧ W.cell? ⟨g, o + i * 2 + 1, none⟩ = some (.int .i64 x.2)
theorem KO.below {W W' : World} {base : Option Addr} {g o : Nat} {K : List Pf} (h : KO W base g o K) (hb : Below W.heap.size W W') : KO W' base g o K :=
  ⟨Nat.lt_of_lt_of_le h.lt hb.size, fun i x hx => by obtain ⟨h0, h1, h2⟩ := h.row i x hx; exact ⟨h0, cellL hb h1, cellL hb h2⟩⟩
theorem KO.src {W : World} {base : Option Addr} {g o : Nat} {K : List Pf} (h : KO W base g o K) : Src W base K.length 2 (kCs K) := by
  by_cases hK : K = []
  · subst hK
    exact Src.nil _ _
  · obtain ⟨x, hx⟩ := List.exists_mem_of_ne_nil _ hK
    obtain ⟨j, hj, _⟩ := List.mem_iff_getElem.1 hx
    obtain ⟨e, _⟩ := h.row j _ (List.getElem?_eq_getElem hj)
    rw [e]
    exact KL.srcO fun i y hy => (h.row i y hy).2
theorem info25 : (Tryd.prog.info? 25).map (fun i => (i.zero, i.size, i.bytes)) = some (some (.agg #[.int .u32 0, .int .i64 0]), 2, 16) := by kernel_rfl
theorem ord_le (x y : Pf) : ordI y.1 y.2 x.1 x.2 ≤ 0 ↔ ¬ plt x y := by
  unfold ordI orI cmpI plt
  repeat' split
  all_goals omega
theorem orderR_g (pa pn qa qn : Int) (W : World) (d : Nat) (os : Array Obj) : Calls Tryd.prog 30 #[.agg #[.int .u32 pa, .int .i64 pn], .agg #[.int .u32 qa, .int .i64 qn]] (grow (redrawn W d) os) fun e w' => e = .returned (.int .i64 (ordI pa pn qa qn)) ∧ ∃ p : Regrown, w' = grow (redrawn W p.d) p.os := by
  rw [ord_eq]
  exact Calls.regrown_of (rOrder_any pa pn qa qn _)
end Go.Proofs.YtmmoccceafcfkaaDoor
