/- Sorting prefixes: what the order is; a row of prefixes of one's own in memory. -/
import Derived.Test.YtmmoccceafcfkaaDoorD1
import Derived.Sort.LotC
import Derived.Sort.LotD3
import Derived.Sort.AssemblyPlain
import Derived.Shelf.GgSortFunc.Insertion
import Derived.Deep.DeepCutAuto
namespace Go.Proofs.YtmmoccceafcfkaaDoor
open Go.RowKit Go.Shelf Go.Sort

/-- a prefix's two parts -/
abbrev Pf := Int × Int
def pcf (x y : Pf) : Int := ordI x.1 x.2 y.1 y.2
def plt (x y : Pf) : Prop := x.1 < y.1 ∨ (x.1 = y.1 ∧ x.2 < y.2)
def pltB (x y : Pf) : Bool := decide (pcf x y < 0)
theorem pcf_neg (x y : Pf) : pcf x y < 0 ↔ plt x y := by
  unfold pcf plt ordI orI cmpI
  repeat' split <;> omega
theorem pcf_zero (x y : Pf) : pcf x y = 0 ↔ x = y := by
  obtain ⟨a, b⟩ := x
  obtain ⟨c, d⟩ := y
  unfold pcf ordI orI cmpI
  simp only [Prod.mk.injEq]
  repeat' split <;> omega
theorem pltB_iff (x y : Pf) : pltB x y = true ↔ plt x y := by unfold pltB; rw [decide_eq_true_eq, pcf_neg]
theorem pltB_not (x y : Pf) : pltB x y = false ↔ ¬ plt x y := by rw [← pltB_iff]; cases pltB x y <;> simp
theorem p_swo : SWO pltB where
  irrefl x := by rw [pltB_not]; unfold plt; omega
  trans x y z h1 h2 := by
    rw [pltB_iff] at *
    unfold plt at *
    omega
  ntrans x y z h1 h2 := by
    rw [pltB_not] at *
    unfold plt at *
    omega
theorem p_tot (x y : Pf) (h1 : pltB x y = false) (h2 : pltB y x = false) : x = y := by
  rw [pltB_not] at *
  obtain ⟨a, b⟩ := x
  obtain ⟨c, d⟩ := y
  unfold plt at *
  simp only at h1 h2
  have h3 : a = c := by omega
  have h4 : b = d := by omega
  rw [h3, h4]

/-- only these blocks changed; new ones lie behind -/
structure KB (S : List Nat) (w w' : World) : Prop where
  os : w'.os = w.os
  tape : w'.tape = w.tape
  output : w'.output = w.output
  size : w.heap.size ≤ w'.heap.size
  block : ∀ k, k < w.heap.size → k ∉ S → w'.heap[k]? = w.heap[k]?
theorem KB.refl (S : List Nat) (w : World) : KB S w w := ⟨rfl, rfl, rfl, Nat.le_refl _, fun _ _ _ => rfl⟩
theorem KB.trans {S : List Nat} {a b c : World} (h : KB S a b) (k : KB S b c) : KB S a c :=
  ⟨k.os.trans h.os, k.tape.trans h.tape, k.output.trans h.output, Nat.le_trans h.size k.size, fun i hi hn => (k.block i (Nat.lt_of_lt_of_le hi h.size) hn).trans (h.block i hi hn)⟩
theorem KB.of_below {S : List Nat} {w w' : World} (h : Below w.heap.size w w') : KB S w w' := ⟨h.os, h.tape, h.output, h.size, fun i hi _ => h.block i hi⟩
theorem KB.sub {S S' : List Nat} {w w' : World} (h : KB S w w') (hs : ∀ c ∈ S, c ∈ S' ∨ w.heap.size ≤ c) : KB S' w w' :=
  ⟨h.os, h.tape, h.output, h.size, fun i hi hn => h.block i hi (fun hm => by rcases hs i hm with h1 | h1; exact hn h1; omega)⟩
theorem KB.setCell (S : List Nat) (w : World) (b o : Nat) (v : Value) (hb : b ∈ S) : KB S w (w.setCell ⟨b, o, none⟩ v) :=
  ⟨rfl, rfl, rfl, by simp, fun i _ hn => Below.heap_setCell w _ v i (fun e => hn (by rw [e]; exact hb))⟩
theorem KB.setCell_new {S : List Nat} {w w' : World} (h : KB S w w') (b o : Nat) (v : Value) (hb : w.heap.size ≤ b) : KB S w (w'.setCell ⟨b, o, none⟩ v) :=
  ⟨h.os, h.tape, h.output, by have := h.size; simpa using this, fun i hi hn => (Below.heap_setCell w' _ v i (fun e => by have e : i = b := e; omega)).trans (h.block i hi hn)⟩
theorem KB.drew {S : List Nat} {w w' : World} (h : KB S w w') : KB S w w'.drew := ⟨h.os, h.tape, h.output, h.size, h.block⟩
theorem KB.cell {S : List Nat} {w w' : World} (h : KB S w w') {b o : Nat} {v : Value} (hc : w.cell? ⟨b, o, none⟩ = some v) (hn : b ∉ S) : w'.cell? ⟨b, o, none⟩ = some v :=
  (World.cell?_of_block (h.block b (World.block_lt_of_cell? w _ hc) hn)).trans hc
theorem KB.below {S : List Nat} {n : Nat} {w w' : World} (h : KB S w w') (hS : ∀ c ∈ S, n ≤ c) (hn : n ≤ w.heap.size) : Below n w w' :=
  ⟨h.os, h.tape, h.output, h.size, fun k hk => h.block k (by omega) (fun hm => by have := hS k hm; omega)⟩

/-- a row of prefixes in block g, that may be written -/
def AR (W : World) (g : Nat) (d : Array Pf) : Prop := ∀ i, i < d.size →
  (W.cell? ⟨g, i * 2, none⟩ = some (.int .u32 d[i]!.1) ∧ W.cell? ⟨g, i * 2 + 1, none⟩ = some (.int .i64 d[i]!.2)) ∧ W.frozen? ⟨g, i * 2, none⟩ = false ∧ W.frozen? ⟨g, i * 2 + 1, none⟩ = false
theorem AR.of_block {W W' : World} {g : Nat} {d : Array Pf} (h : AR W g d) (e : W'.heap[g]? = W.heap[g]?) : AR W' g d := by
  have hc : ∀ o, W'.cell? ⟨g, o, none⟩ = W.cell? ⟨g, o, none⟩ := fun o => World.cell?_of_block (w := W) (a := ⟨g, o, none⟩) e
  have hf : ∀ o, W'.frozen? ⟨g, o, none⟩ = W.frozen? ⟨g, o, none⟩ := fun o => by unfold World.frozen?; simp only [e]
  exact fun i hi => by obtain ⟨⟨h0, h1⟩, h2, h3⟩ := h i hi; exact ⟨⟨(hc _).trans h0, (hc _).trans h1⟩, (hf _).trans h2, (hf _).trans h3⟩
theorem AR.kb {W W' : World} {g : Nat} {d : Array Pf} {S : List Nat} (h : AR W g d) (hg : g < W.heap.size) (hk : KB S W W') (hn : g ∉ S) : AR W' g d := h.of_block (hk.block g hg hn)
theorem AR.below {W W' : World} {g : Nat} {d : Array Pf} (h : AR W g d) (hg : g < W.heap.size) (hb : Below W.heap.size W W') : AR W' g d := h.of_block (hb.block g hg)
theorem AR.c0 {W : World} {g : Nat} {d : Array Pf} (h : AR W g d) {i : Nat} (hi : i < d.size) : W.cell? ⟨g, i * 2, none⟩ = some (.int .u32 d[i]!.1) := (h i hi).1.1
theorem AR.c1 {W : World} {g : Nat} {d : Array Pf} (h : AR W g d) {i : Nat} (hi : i < d.size) : W.cell? ⟨g, i * 2 + 1, none⟩ = some (.int .i64 d[i]!.2) := (h i hi).1.2
theorem AR.f0 {W : World} {g : Nat} {d : Array Pf} (h : AR W g d) {i : Nat} (hi : i < d.size) : W.frozen? ⟨g, i * 2, none⟩ = false := (h i hi).2.1
theorem AR.f1 {W : World} {g : Nat} {d : Array Pf} (h : AR W g d) {i : Nat} (hi : i < d.size) : W.frozen? ⟨g, i * 2 + 1, none⟩ = false := (h i hi).2.2

/-- a prefix laid in at o -/
def put2 (W : World) (g o : Nat) (x : Pf) : World := (W.setCell ⟨g, o, none⟩ (.int .u32 x.1)).setCell ⟨g, o + 1, none⟩ (.int .i64 x.2)
theorem AR.put {W : World} {g : Nat} {d : Array Pf} (h : AR W g d) {i : Nat} (hi : i < d.size) (x : Pf) : AR (put2 W g (i * 2) x) g (d.setIfInBounds i x) := by
  intro k hk
  rw [Array.size_setIfInBounds] at hk
  obtain ⟨⟨h0, h1⟩, h2, h3⟩ := h k hk
  obtain ⟨⟨g0, g1⟩, g2, g3⟩ := h i hi
  have hne : i * 2 + 1 ≠ i * 2 := by omega
  unfold put2
  refine ⟨?_, by simpa using h2, by simpa using h3⟩
  by_cases hik : i = k
  · subst hik
    have e : (d.setIfInBounds i x)[i]! = x := by rw [getElem!_pos (d.setIfInBounds i x) i (by simpa using hi)]; simp
    rw [e]
    refine ⟨?_, World.cell?_setCell_same' _ _ _ (by rw [World.cell?_setCell_other _ _ _ _ (by simp), g1]; rfl)⟩
    rw [World.cell?_setCell_other _ _ _ _ (by simp)]
    exact World.cell?_setCell_same' _ _ _ (by rw [g0]; rfl)
  · have e : (d.setIfInBounds i x)[k]! = d[k]! := by
      simp only [getElem!_def, Array.getElem?_setIfInBounds, hik, if_false]
    rw [e]
    refine ⟨?_, ?_⟩
    · rw [World.cell?_setCell_other _ _ _ _ (by simp <;> omega), World.cell?_setCell_other _ _ _ _ (by simp <;> omega)]
      exact h0
    · rw [World.cell?_setCell_other _ _ _ _ (by simp <;> omega), World.cell?_setCell_other _ _ _ _ (by simp <;> omega)]
      exact h1
theorem put2_kb (W : World) (g o : Nat) (x : Pf) {S : List Nat} (hg : g ∈ S) : KB S W (put2 W g o x) := (KB.setCell _ _ _ _ _ hg).trans (KB.setCell _ _ _ _ _ hg)
theorem AR.swap {W : World} {g : Nat} {d : Array Pf} (h : AR W g d) {i j : Nat} (hi : i < d.size) (hj : j < d.size) : AR (put2 (put2 W g (i * 2) d[j]!) g (j * 2) d[i]!) g (swp d i j) :=
  (h.put hi _).put (by simpa using hj) _
theorem AR.drew {W : World} {g : Nat} {d : Array Pf} (h : AR W g d) : AR W.drew g d := h.of_block rfl
theorem AR.alloc {W : World} {g : Nat} {d : Array Pf} (h : AR W g d) (hg : g < W.heap.size) (o : Obj) : AR (W.alloc o) g d := h.below hg ((Below.refl _ W).alloc (Nat.le_refl _) o)

/-- a world of the sort's: w but for block g, which holds d -/
structure SW (w : World) (g : Nat) (d : Array Pf) (W : World) : Prop where
  row : AR W g d
  kb : KB [g] w W
  lt : g < w.heap.size
theorem SW.start {w : World} {g : Nat} {d : Array Pf} (h : AR w g d) (hg : g < w.heap.size) : SW w g d w := ⟨h, KB.refl _ _, hg⟩
section
variable {w W : World} {g : Nat} {d : Array Pf} (h : SW w g d W)
include h
theorem SW.ltw : g < W.heap.size := Nat.lt_of_lt_of_le h.lt h.kb.size
theorem SW.below {W' : World} (hb : Below W.heap.size W W') : SW w g d W' := ⟨h.row.below h.ltw hb, h.kb.trans (KB.of_below hb), h.lt⟩
theorem SW.then {W' : World} {d' : Array Pf} (h' : SW W g d' W') : SW w g d' W' := ⟨h'.row, h.kb.trans h'.kb, h.lt⟩
theorem SW.drew : SW w g d W.drew := ⟨h.row.drew, h.kb.drew, h.lt⟩
theorem SW.swap {i j : Nat} (hi : i < d.size) (hj : j < d.size) : SW w g (swp d i j) (put2 (put2 W g (i * 2) d[j]!) g (j * 2) d[i]!) :=
  ⟨h.row.swap hi hj, (h.kb.trans (put2_kb _ _ _ _ (by simp))).trans (put2_kb _ _ _ _ (by simp)), h.lt⟩
theorem SW.reg (n : Nat) (os : Array Obj) : SW w g d (grow (redrawn W n) os) := h.below (below_regrown W n os)
theorem SW.setNew (b o : Nat) (v : Value) (hb : w.heap.size ≤ b) : SW w g d (W.setCell ⟨b, o, none⟩ v) :=
  ⟨h.row.of_block (Below.heap_setCell W _ v g (fun e => by have := h.lt; simp at e; omega)), h.kb.setCell_new b o v hb, h.lt⟩
theorem SW.alloc (o : Obj) : SW w g d (W.alloc o) := h.below ((Below.refl _ W).alloc (Nat.le_refl _) o)
theorem SW.rowW : SW W g d W := ⟨h.row, KB.refl _ _, h.ltw⟩
end
end Go.Proofs.YtmmoccceafcfkaaDoor
