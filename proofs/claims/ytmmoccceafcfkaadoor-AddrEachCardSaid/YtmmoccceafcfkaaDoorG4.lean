/- The walk of AddrEach. -/
import Derived.Test.YtmmoccceafcfkaaDoorG3
namespace Go.Proofs.YtmmoccceafcfkaaDoor
open Go.RowKit Go.Shelf

attribute [local go_sem] Oper.semAt_some

theorem cellsE_at0 {L : List (Nat × Int)} {i : Nat} {p : Nat × Int} (h : L[i]? = some p) : (cellsE L)[i * 2]? = some (.int .i64 p.1) := by
  induction L generalizing i with
  | nil => simp at h
  | cons q L ih =>
    cases i with
    | zero => simp at h; subst h; rfl
    | succ i =>
      simp at h
      have := ih h
      simpa [cellsE, Nat.succ_mul] using this
theorem cellsE_at1 {L : List (Nat × Int)} {i : Nat} {p : Nat × Int} (h : L[i]? = some p) : (cellsE L)[i * 2 + 1]? = some (.int .u32 p.2) := by
  induction L generalizing i with
  | nil => simp at h
  | cons q L ih =>
    cases i with
    | zero => simp at h; subst h; rfl
    | succ i =>
      simp at h
      have := ih h
      rw [Nat.succ_mul, Nat.add_right_comm]
      simpa [cellsE] using this
theorem cells_at {cur : Array Value} {k j : Nat} {xs : List Value} {v : Value} (h : cur.toList.take k = xs) (hx : xs[j]? = some v) : cur[j]? = some v := by
  subst h
  rw [List.getElem?_take] at hx
  split at hx
  · rw [← Array.getElem?_toList]; exact hx
  · cases hx
/-- an owned row of ones, as a slice whose cells are known -/
theorem own_rows {w : World} {B : Nat} {v : Value} {L : List (Nat × Int)} (h : w.ownsRow B 74 2 v L.length (cellsE L)) :
    ∃ (base : Option Addr) (g cap : Nat), v = .slice base L.length cap ∧ (base = none ∨ g < w.heap.size) ∧ (base = none → L = []) ∧ (∀ a, base = some a → B ≤ g) ∧
      ∀ i p, L[i]? = some p → base = some ⟨g, 0, none⟩ ∧ w.cell? ⟨g, i * 2, none⟩ = some (.int .i64 p.1) ∧ w.cell? ⟨g, i * 2 + 1, none⟩ = some (.int .u32 p.2) := by
  rcases h.2 with ⟨rfl, h0⟩ | ⟨g, cap, cur, rfl, hb, hc, h1, h2, h3, h4⟩
  · have hl : L.length = 0 := h0
    refine ⟨none, 0, 0, by rw [hl], .inl rfl, fun _ => List.eq_nil_of_length_eq_zero hl, fun a e => (by cases e), fun i p hp => ?_⟩
    rw [List.eq_nil_of_length_eq_zero hl] at hp
    simp at hp
  · refine ⟨some ⟨g, 0, none⟩, g, cap, rfl, .inr (Array.getElem?_eq_some_iff.1 hc).1, fun e => (by cases e), fun _ _ => hb, fun i p hp => ⟨rfl, ?_, ?_⟩⟩
    · have hci : w.cell? ⟨g, i * 2, none⟩ = cur[i * 2]? := by simp [World.cell?, hc]
      rw [hci]
      exact cells_at h4 (cellsE_at0 hp)
    · have hci : w.cell? ⟨g, i * 2 + 1, none⟩ = cur[i * 2 + 1]? := by simp [World.cell?, hc]
      rw [hci]
      exact cells_at h4 (cellsE_at1 hp)

set_option maxRecDepth 1000000 in
set_option maxHeartbeats 4000000 in
theorem AddrEach_walk (s : ByteArray) (many : Int) (w : World) (hs : s.size ≤ 200) (ht : Pow w) (hm : MLen w) :
    Calls Tryd.prog 9 #[.string s, .int .i64 many] w fun e w' => e = .returned (.bool true) ∧ Below w.heap.size w w' := by
  have HT := Lib.hid ht
  have HM := Lib.hid hm
  clear ht hm
  have hnf : ∀ (b : Nat) (W : World), (binOp .eql 71 (.func (.func 72) #[] #[.pointer (some ⟨b, 0, none⟩)]) .nilFunc).run Tryd.prog W = .ok (.bool false) W := fun _ _ => by kernel_rfl
  generalize hL : eachS s.data.toList = L
  have HL := Lib.hid hL
  clear hL
  have t1 : decide ((200 : Int) < (s.size : Int)) = false := by simp; omega
  have t2 : decide (200 < s.size) = false := by simp; omega
  refine (callsIn_wide (n := 3)).1 ?_
  refine callsIn_of_wp_marks Tryd.func9 rfl trivial ?_ rfl
  simp only [Tryd.ntmps9, List.size_toArray, List.length_cons, List.length_nil, Nat.reduceAdd, Nat.reduceSub, Array.replicate_succ, Array.replicate_zero, List.push_toArray, List.append_toArray, List.nil_append, List.cons_append]
  refine wpIn_wide.2 ?_
  go_wp2_with fail
  have B0 : Below w.heap.size w ((w.alloc (Obj.cells #[Value.int IntKind.i64 many] 3)).alloc (Obj.cells #[Value.bool false] 4)) := ((Below.refl _ _).alloc (Nat.le_refl _) _).alloc (by simp) _
  have b3 : OneB ((w.alloc (Obj.cells #[Value.int IntKind.i64 many] 3)).alloc (Obj.cells #[Value.bool false] 4)) w.heap.size (.int .i64 many) 3 := (OneB.new w _ _).alloc _
  have b4 : OneB ((w.alloc (Obj.cells #[Value.int IntKind.i64 many] 3)).alloc (Obj.cells #[Value.bool false] 4)) (w.heap.size + 1) (.bool false) 4 := by
    have := OneB.new (w.alloc (Obj.cells #[Value.int IntKind.i64 many] 3)) (.bool false) 4
    simpa using this
  have hz0 : ((w.alloc (Obj.cells #[Value.int IntKind.i64 many] 3)).alloc (Obj.cells #[Value.bool false] 4)).heap.size = w.heap.size + 1 + 1 := by simp
  refine (rEach_any s _ (by omega)).mono ?_
  rintro e w1 ⟨v, rfl, hown, hb1⟩
  rw [HL.out] at hown
  replace B0 := bthen B0 hb1
  replace b3 := b3.below hb1
  replace b4 := b4.below hb1
  obtain ⟨base, g, cap, rfl, hg1, hg2, hg3, hrow⟩ := own_rows hown
  have hsz1 := hb1.size
  rw [hz0] at hsz1 hg3
  have HRow := Lib.hid hrow
  clear hown hrow hb1 hz0
  go_wp2_with fail
  refine (Each_any s _).mono ?_
  rintro e w2 ⟨rfl, rfl⟩
  go_wp2_with fail
  have S1 : OneB ((w1.alloc (Obj.cells #[Value.slice base L.length cap] 68)).alloc (Obj.cells #[Value.string s] 9)) w1.heap.size (.slice base L.length cap) 68 := (OneB.new w1 _ _).alloc _
  have S2 : ((w1.alloc (Obj.cells #[Value.slice base L.length cap] 68)).alloc (Obj.cells #[Value.string s] 9)).heap[w1.heap.size + 1]? = some (.cells #[.string s] 9) := by
    have := World.alloc_heap_new (w1.alloc (Obj.cells #[Value.slice base L.length cap] 68)) (Obj.cells #[Value.string s] 9)
    simpa using this
  refine wp_loop_rounds 3 ?_
  rw [rounds_succ]
  go_wp2_with fail
  replace b3 := ((((b3.alloc (Obj.cells #[Value.slice base L.length cap] 68)).alloc (Obj.cells #[Value.string s] 9)).alloc (Obj.cells #[Value.int IntKind.i64 0] 3)).alloc (Obj.cells #[Value.int IntKind.i64 0] 3))
  replace b4 := ((((b4.alloc (Obj.cells #[Value.slice base L.length cap] 68)).alloc (Obj.cells #[Value.string s] 9)).alloc (Obj.cells #[Value.int IntKind.i64 0] 3)).alloc (Obj.cells #[Value.int IntKind.i64 0] 3))
  replace B0 := ((((B0.alloc B0.size (Obj.cells #[Value.slice base L.length cap] 68)).alloc (by have := B0.size; simp; omega) (Obj.cells #[Value.string s] 9)).alloc (by have := B0.size; simp; omega) (Obj.cells #[Value.int IntKind.i64 0] 3)).alloc (by have := B0.size; simp; omega) (Obj.cells #[Value.int IntKind.i64 0] 3))
  have bt0 : OneB ((((w1.alloc (Obj.cells #[Value.slice base L.length cap] 68)).alloc (Obj.cells #[Value.string s] 9)).alloc (Obj.cells #[Value.int IntKind.i64 0] 3)).alloc (Obj.cells #[Value.int IntKind.i64 0] 3)) (w1.heap.size + 1 + 1) (.int .i64 0) 3 := by
    have := (OneB.new ((w1.alloc (Obj.cells #[Value.slice base L.length cap] 68)).alloc (Obj.cells #[Value.string s] 9)) (.int .i64 0) 3).alloc (Obj.cells #[Value.int IntKind.i64 0] 3)
    simpa using this
  have bn0 : OneB ((((w1.alloc (Obj.cells #[Value.slice base L.length cap] 68)).alloc (Obj.cells #[Value.string s] 9)).alloc (Obj.cells #[Value.int IntKind.i64 0] 3)).alloc (Obj.cells #[Value.int IntKind.i64 0] 3)) (w1.heap.size + 1 + 1 + 1) (.int .i64 0) 3 := by
    have := OneB.new (((w1.alloc (Obj.cells #[Value.slice base L.length cap] 68)).alloc (Obj.cells #[Value.string s] 9)).alloc (Obj.cells #[Value.int IntKind.i64 0] 3)) (.int .i64 0) 3
    simpa using this
  replace S1 := (S1.alloc (Obj.cells #[Value.int IntKind.i64 0] 3)).alloc (Obj.cells #[Value.int IntKind.i64 0] 3)
  have bX : Below w1.heap.size w1 ((((w1.alloc (Obj.cells #[Value.slice base L.length cap] 68)).alloc (Obj.cells #[Value.string s] 9)).alloc (Obj.cells #[Value.int IntKind.i64 0] 3)).alloc (Obj.cells #[Value.int IntKind.i64 0] 3)) := ((((Below.refl _ _).alloc (Nat.le_refl _) _).alloc (by simp) _).alloc (by simp; omega) _).alloc (by simp; omega) _
  have hsz2 : ((((w1.alloc (Obj.cells #[Value.slice base L.length cap] 68)).alloc (Obj.cells #[Value.string s] 9)).alloc (Obj.cells #[Value.int IntKind.i64 0] 3)).alloc (Obj.cells #[Value.int IntKind.i64 0] 3)).heap.size = w1.heap.size + 1 + 1 + 1 + 1 := by simp
  replace S2 := (((Below.refl _ ((w1.alloc (Obj.cells #[Value.slice base L.length cap] 68)).alloc (Obj.cells #[Value.string s] 9))).alloc (Nat.le_refl _) (Obj.cells #[Value.int IntKind.i64 0] 3)).alloc (by simp) (Obj.cells #[Value.int IntKind.i64 0] 3)).block (w1.heap.size + 1) (by simp) |>.trans S2
  have hMw := HM.out.below B0
  have hrow := HRow.out
  have hrow2 : ∀ i p, L[i]? = some p → base = some ⟨g, 0, none⟩ ∧ ((((w1.alloc (Obj.cells #[Value.slice base L.length cap] 68)).alloc (Obj.cells #[Value.string s] 9)).alloc (Obj.cells #[Value.int IntKind.i64 0] 3)).alloc (Obj.cells #[Value.int IntKind.i64 0] 3)).cell? ⟨g, i * 2, none⟩ = some (.int .i64 p.1) ∧ ((((w1.alloc (Obj.cells #[Value.slice base L.length cap] 68)).alloc (Obj.cells #[Value.string s] 9)).alloc (Obj.cells #[Value.int IntKind.i64 0] 3)).alloc (Obj.cells #[Value.int IntKind.i64 0] 3)).cell? ⟨g, i * 2 + 1, none⟩ = some (.int .u32 p.2) := by
    intro i p hp
    obtain ⟨h1, h2, h3⟩ := hrow i p hp
    exact ⟨h1, (bX.cell (p := ⟨g, i * 2, none⟩) (World.block_lt_of_cell? w1 _ h2)).trans h2, (bX.cell (p := ⟨g, i * 2 + 1, none⟩) (World.block_lt_of_cell? w1 _ h3)).trans h3⟩
  generalize ((((w1.alloc (Obj.cells #[Value.slice base L.length cap] 68)).alloc (Obj.cells #[Value.string s] 9)).alloc (Obj.cells #[Value.int IntKind.i64 0] 3)).alloc (Obj.cells #[Value.int IntKind.i64 0] 3)) = W0 at *
  have HRow2 := Lib.hid hrow2
  clear hrow hrow2 HRow
  obtain ⟨g', hgg, hg4⟩ : ∃ g', (L ≠ [] → g' = g) ∧ g' < w1.heap.size := by
    by_cases hLn : L = []
    · exact ⟨0, fun h => absurd hLn h, by omega⟩
    · refine ⟨g, fun _ => rfl, ?_⟩
      rcases hg1 with h | h
      · exact absurd (hg2 h) hLn
      · exact h
  have hrow3 : ∀ i p, L[i]? = some p → base = some ⟨g', 0, none⟩ ∧ W0.cell? ⟨g', i * 2, none⟩ = some (.int .i64 p.1) ∧ W0.cell? ⟨g', i * 2 + 1, none⟩ = some (.int .u32 p.2) := by
    intro i p hp
    have hne : L ≠ [] := fun e => by rw [e] at hp; simp at hp
    rw [hgg hne]
    exact HRow2.out i p hp
  have HRow3 := Lib.hid hrow3
  clear hrow3 HRow2
  refine rf9_turn s hs L HL.out w.heap.size (w.heap.size + 1) w1.heap.size (w1.heap.size + 1 + 1) (w1.heap.size + 1 + 1 + 1) (w1.heap.size + 1) g' cap base many 0 []
    _ _ _ _ _ _ _ _ _ _ _ _ _ _ _ _ _ _ _ _ _ _ _ _ _ _ _ _ _ _ _ _ _ _ _ _ _ _ _ _ _ _ _ _ _ _ _ _ _ _ _ _ _ _ _ _ _ _ _ _ _ _ _ _ _ _ _ _ _ _ _ _ _ _ _ W0 _
    (by omega) (by omega) (by omega) (by omega) (by omega) (by omega) (by have := HM.out.lt; omega) b3 b4 S1 bt0 bn0 S2 hMw HRow3.out ?_ ?_
  all_goals
    rintro D W hD ⟨n, hn1, hn2, _, hn, hg⟩ hK
    have hn2' := hn2 rfl
    clear hn2
    have x0 := hn.c
    have x3 := (b3.grown hg (by omega)).c
    have x5 := (S1.grown hg (by omega)).c
    have x7 := (bt0.grown hg (by omega)).c
    have hl1 := b3.lt
    go_wp2_with fail
    rw [rounds_succ]
    go_wp2_with fail
    have g3 := ((b3.grown hg (by omega)).alloc (Obj.cells #[Value.int IntKind.i64 1] 3)).alloc (Obj.cells #[Value.int IntKind.i64 0] 3)
    have g4 := ((b4.grown hg (by omega)).alloc (Obj.cells #[Value.int IntKind.i64 1] 3)).alloc (Obj.cells #[Value.int IntKind.i64 0] 3)
    have g5 := ((S1.grown hg (by omega)).alloc (Obj.cells #[Value.int IntKind.i64 1] 3)).alloc (Obj.cells #[Value.int IntKind.i64 0] 3)
    have gB := ((B0.grown hg (by have := B0.size; omega) (fun k e => by cases e; omega)).alloc (by have := B0.size; have := hg.size; omega) (Obj.cells #[Value.int IntKind.i64 1] 3)).alloc (by have := B0.size; have := hg.size; simp; omega) (Obj.cells #[Value.int IntKind.i64 0] 3)
    have bY : Below W.heap.size W ((W.alloc (Obj.cells #[Value.int IntKind.i64 1] 3)).alloc (Obj.cells #[Value.int IntKind.i64 0] 3)) := ((Below.refl _ _).alloc (Nat.le_refl _) _).alloc (by simp) _
    have gK := (bY.block D (Array.getElem?_eq_some_iff.1 hK).1).trans hK
    have hWs := hg.size
    have gS := (bY.block (w1.heap.size + 1) (by omega)).trans ((hg.block (w1.heap.size + 1) (by omega) (fun e => by have := Option.some.inj e; omega)).trans S2)
    have gt : OneB ((W.alloc (Obj.cells #[Value.int IntKind.i64 1] 3)).alloc (Obj.cells #[Value.int IntKind.i64 0] 3)) W.heap.size (.int .i64 1) 3 := (OneB.new W _ _).alloc _
    have gn : OneB ((W.alloc (Obj.cells #[Value.int IntKind.i64 1] 3)).alloc (Obj.cells #[Value.int IntKind.i64 0] 3)) (W.heap.size + 1) (.int .i64 0) 3 := by
      have := OneB.new (W.alloc (Obj.cells #[Value.int IntKind.i64 1] 3)) (.int .i64 0) 3
      simpa using this
    have hgs : ((W.alloc (Obj.cells #[Value.int IntKind.i64 1] 3)).alloc (Obj.cells #[Value.int IntKind.i64 0] 3)).heap.size = W.heap.size + 1 + 1 := by simp
    have hDl : D < W.heap.size := (Array.getElem?_eq_some_iff.1 hK).1
    have hrow4 : ∀ i p, L[i]? = some p → base = some ⟨g', 0, none⟩ ∧ ((W.alloc (Obj.cells #[Value.int IntKind.i64 1] 3)).alloc (Obj.cells #[Value.int IntKind.i64 0] 3)).cell? ⟨g', i * 2, none⟩ = some (.int .i64 p.1) ∧ ((W.alloc (Obj.cells #[Value.int IntKind.i64 1] 3)).alloc (Obj.cells #[Value.int IntKind.i64 0] 3)).cell? ⟨g', i * 2 + 1, none⟩ = some (.int .u32 p.2) := by
      intro i p hp
      obtain ⟨h1, h2, h3⟩ := HRow3.out i p hp
      have k2 := grown_cell hg h2 (by omega)
      have k3 := grown_cell hg h3 (by omega)
      exact ⟨h1, (bY.cell (p := ⟨g', i * 2, none⟩) (World.block_lt_of_cell? W _ k2)).trans k2, (bY.cell (p := ⟨g', i * 2 + 1, none⟩) (World.block_lt_of_cell? W _ k3)).trans k3⟩
    generalize (W.alloc (Obj.cells #[Value.int IntKind.i64 1] 3)).alloc (Obj.cells #[Value.int IntKind.i64 0] 3) = W4 at *
    clear x0 x3 x5 x7 hn2' bY hn hg hK
    refine rf9_turn s hs L HL.out w.heap.size (w.heap.size + 1) w1.heap.size W.heap.size (W.heap.size + 1) (w1.heap.size + 1) g' cap base many 1 _
      _ _ _ _ _ _ _ _ _ _ _ _ _ _ _ _ _ _ _ _ _ _ _ _ _ _ _ _ _ _ _ _ _ _ _ _ _ _ _ _ _ _ _ _ _ _ _ _ _ _ _ _ _ _ _ _ _ _ _ _ _ _ _ _ _ _ _ _ _ _ _ _ _ _ _ W4 _
      (by omega) (by omega) (by omega) (by omega) (by omega) (by omega) (by have := HM.out.lt; omega) g3 g4 g5 gt gn gS (HM.out.below gB) hrow4 ?_ ?_
    all_goals
      rintro D2 V hD2 ⟨n2, hm1, _, hm2, hn, hg⟩ hK
      obtain rfl := hm2 (by omega)
      clear hm2
      have x0 := hn.c
      have x3 := (g3.grown hg (by omega)).c
      have x5 := (g5.grown hg (by omega)).c
      have x7 := (gt.grown hg (by omega)).c
      go_wp2_with fail
      rw [rounds_succ]
      go_wp2_with fail
      have o4 := g4.grown hg (by omega)
      have oB := gB.grown hg (by have := gB.size; omega) (fun k e => by cases e; omega)
      have oK := (hg.block D (by omega) (fun e => by have := Option.some.inj e; omega)).trans gK
      have bZ : Below V.heap.size V (V.alloc (Obj.cells #[Value.int IntKind.i64 2] 3)) := (Below.refl _ _).alloc (Nat.le_refl _) _
      replace o4 := o4.below bZ
      replace oB := bthen oB bZ
      replace oK := (bZ.block D (Array.getElem?_eq_some_iff.1 oK).1).trans oK
      have oK2 := (bZ.block D2 (Array.getElem?_eq_some_iff.1 hK).1).trans hK
      generalize V.alloc (Obj.cells #[Value.int IntKind.i64 2] 3) = V2 at *
      refine (works1 _ (tabBelow HT.out oB)).mono ?_
      rintro e V3 ⟨rfl, hb9⟩
      replace o4 := o4.below hb9
      replace oB := bthen oB hb9
      replace oK := (hb9.block D (Array.getElem?_eq_some_iff.1 oK).1).trans oK
      replace oK2 := (hb9.block D2 (Array.getElem?_eq_some_iff.1 oK2).1).trans oK2
      clear x0 x3 x5 x7 bZ hb9
      have y0 := o4.c
      have y1 := o4.f
      go_wp2_with fail
      have o5 := o4.set (.bool true)
      have oB2 := oB.setCell (p := ⟨w.heap.size + 1, 0, none⟩) (by simp) (.bool true)
      have k1 := (KeepsOthers.setCell V3 ⟨w.heap.size + 1, 0, none⟩ (.bool true)).same D _ oK rfl
      have k2 := (KeepsOthers.setCell V3 ⟨w.heap.size + 1, 0, none⟩ (.bool true)).same D2 _ oK2 rfl
      generalize V3.setCell ⟨w.heap.size + 1, 0, none⟩ (.bool true) = V4 at *
      have hne : D ≠ D2 := by omega
      have hwD : w.heap.size + 1 < D := by omega
      have hwD2 : w.heap.size + 1 < D2 := by omega
      have o6 : OneB (V4.putObj D2 (.deferred none)) (w.heap.size + 1) (.bool true) 4 := (World.putObj_heap_other (by omega)).trans o5
      have oB3 := oB2.trans (belowK_b (w := w) (Nat.le_refl _) V4 D2 _ (.deferred none) (by omega) k2 rfl rfl)
      have k3 : (V4.putObj D2 (.deferred none)).heap[D]? = some (.deferred (some [])) := (World.putObj_heap_other (by omega)).trans k1
      refine ⟨by simp, .inl ⟨_, _, rfl, run_takeDeferred k2, ?_⟩⟩
      generalize V4.putObj D2 (.deferred none) = V5 at *
      have o7 : OneB (V5.putObj D (.deferred none)) (w.heap.size + 1) (.bool true) 4 := (World.putObj_heap_other (by omega)).trans o6
      have oB4 := oB3.trans (belowK_b (w := w) (Nat.le_refl _) V5 D _ (.deferred none) (by omega) k3 rfl rfl)
      refine ⟨by simp, .inl ⟨_, _, rfl, run_takeDeferred k3, ?_⟩⟩
      generalize V5.putObj D (.deferred none) = V6 at *
      have q0 := o7.c
      exact ⟨.bool true, by simp [results, Tryd.results9, go_sem, q0], rfl, oB4⟩

set_option maxRecDepth 1000000 in
set_option maxHeartbeats 4000000 in
theorem AddrEach_long (s : ByteArray) (many : Int) (w : World) (hs : 200 < s.size) (hs2 : s.size ≤ 9223372036854775807) (ht : Pow w) :
    Calls Tryd.prog 9 #[.string s, .int .i64 many] w fun e w' => e = .returned (.bool true) ∧ Below w.heap.size w w' := by
  have HT := Lib.hid ht
  clear ht
  have t1 : decide ((200 : Int) < (s.size : Int)) = true := by simp; omega
  have t2 : decide (200 < s.size) = true := by simp; omega
  go_enter Tryd.func9, Tryd.ntmps9
  go_wp2_with fail
  have B0 : Below w.heap.size w ((w.alloc (Obj.cells #[Value.int IntKind.i64 many] 3)).alloc (Obj.cells #[Value.bool false] 4)) := ((Below.refl _ _).alloc (Nat.le_refl _) _).alloc (by simp) _
  have b4 : OneB ((w.alloc (Obj.cells #[Value.int IntKind.i64 many] 3)).alloc (Obj.cells #[Value.bool false] 4)) (w.heap.size + 1) (.bool false) 4 := by
    have := OneB.new (w.alloc (Obj.cells #[Value.int IntKind.i64 many] 3)) (.bool false) 4
    simpa using this
  refine (works1 _ (tabBelow HT.out B0)).mono ?_
  rintro e w1 ⟨rfl, hb1⟩
  replace B0 := bthen B0 hb1
  replace b4 := b4.below hb1
  clear hb1
  have y0 := b4.c
  have y1 := b4.f
  go_wp2_with fail
  have o5 := b4.set (.bool true)
  have oB2 := B0.setCell (p := ⟨w.heap.size + 1, 0, none⟩) (by simp) (.bool true)
  generalize w1.setCell ⟨w.heap.size + 1, 0, none⟩ (.bool true) = V4 at *
  have q0 := o5.c
  exact bodyPost_ret (v := .bool true) (by simp [results, Tryd.results9, go_sem, q0]) rfl ⟨rfl, oB2⟩

theorem AddrEach_all (s : ByteArray) (many : Int) (w : World) (hs2 : s.size ≤ 9223372036854775807) (ht : Pow w) (hm : MLen w) :
    Calls Tryd.prog 9 #[.string s, .int .i64 many] w fun e w' => e = .returned (.bool true) ∧ Below w.heap.size w w' := by
  by_cases h : 200 < s.size
  · exact AddrEach_long s many w h hs2 ht
  · exact AddrEach_walk s many w (by omega) ht hm
end Go.Proofs.YtmmoccceafcfkaaDoor
