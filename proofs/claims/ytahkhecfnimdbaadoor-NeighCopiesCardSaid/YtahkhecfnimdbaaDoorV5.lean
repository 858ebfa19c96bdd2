/- The reference: Hear, where it is refused. -/
import Derived.Test.YtahkhecfnimdbaaDoorV4
import Derived.Test.YtahkhecfnimdbaaDoorB6
namespace Go.Proofs.YtahkhecfnimdbaaDoor
open Go.RowKit Go.Maps

/-- the two boxes of Hear, in a later world -/
structure HBx (w w1 : World) (x0 x1 x2 : Value) : Prop where
  b0 : w1.heap[w.heap.size]? = some (.cells #[x0, x1, x2] 47 (0, 0))
  b1 : w1.heap[w.heap.size + 1]? = some rnNil
  bl : Below w.heap.size w w1
theorem HBx.start (w : World) (x0 x1 x2 : Value) : HBx w ((w.alloc (.cells #[x0, x1, x2] 47)).alloc rnNil) x0 x1 x2 :=
  ⟨(Below.heap_alloc _ _ _ (by simp)).trans (World.alloc_heap_new w _), by have := World.alloc_heap_new (w.alloc (.cells #[x0, x1, x2] 47)) rnNil; rwa [World.size_alloc] at this, ((Below.refl _ _).alloc (Nat.le_refl _) _).alloc (by simp) _⟩
section
variable {w w1 : World} {x0 x1 x2 : Value} (h : HBx w w1 x0 x1 x2)
include h
theorem HBx.sz : w.heap.size + 1 < w1.heap.size := (Array.getElem?_eq_some_iff.1 h.b1).1
theorem HBx.below {w2 : World} (hb : Below w1.heap.size w1 w2) : HBx w w2 x0 x1 x2 :=
  ⟨(hb.block _ (by have := h.sz; omega)).trans h.b0, (hb.block _ h.sz).trans h.b1, bthen h.bl hb⟩
theorem HBx.d0 : w1.cell? ⟨w.heap.size, 0, none⟩ = some x0 := by simp [World.cell?, h.b0]
theorem HBx.d1 : w1.cell? ⟨w.heap.size, 1, none⟩ = some x1 := by simp [World.cell?, h.b0]
theorem HBx.d2 : w1.cell? ⟨w.heap.size, 2, none⟩ = some x2 := by simp [World.cell?, h.b0]
theorem HBx.e0 : w1.cell? ⟨w.heap.size + 1, 0, none⟩ = some (.slice none 0 0) := by simp [World.cell?, h.b1]
theorem HBx.e1 : w1.cell? ⟨w.heap.size + 1, 1, none⟩ = some (.int .i64 0) := by simp [World.cell?, h.b1]
theorem HBx.e2 : w1.cell? ⟨w.heap.size + 1, 2, none⟩ = some (.int .i64 0) := by simp [World.cell?, h.b1]
theorem HBx.f0 (o : Nat) : w1.frozen? ⟨w.heap.size, o, none⟩ = false := by simp [World.frozen?, h.b0]
theorem HBx.f1 (o : Nat) : w1.frozen? ⟨w.heap.size + 1, o, none⟩ = false := by simp [World.frozen?, h.b1]
/-- what is left in the second box -/
theorem HBx.out (y0 y1 y2 : Value) : (((w1.setCell ⟨w.heap.size + 1, 0, none⟩ y0).setCell ⟨w.heap.size + 1, 1, none⟩ y1).setCell ⟨w.heap.size + 1, 2, none⟩ y2).heap[w.heap.size + 1]? = some (.cells #[y0, y1, y2] 47 (0, 0)) :=
  heap_setAt (heap_setAt (heap_setAt h.b1 0 _) 1 _) 2 _
theorem HBx.outB (y0 y1 y2 : Value) : Below w.heap.size w (((w1.setCell ⟨w.heap.size + 1, 0, none⟩ y0).setCell ⟨w.heap.size + 1, 1, none⟩ y1).setCell ⟨w.heap.size + 1, 2, none⟩ y2) :=
  ((h.bl.setCell (p := ⟨w.heap.size + 1, 0, none⟩) (by simp) _).setCell (p := ⟨w.heap.size + 1, 1, none⟩) (by simp) _).setCell (p := ⟨w.heap.size + 1, 2, none⟩) (by simp) _
theorem HBx.set (o : Nat) (y : Value) : HBx w (w1.setCell ⟨w.heap.size, o, none⟩ y) ((#[x0, x1, x2].setIfInBounds o y)[0]?.getD undef) ((#[x0, x1, x2].setIfInBounds o y)[1]?.getD undef) ((#[x0, x1, x2].setIfInBounds o y)[2]?.getD undef) := by
  refine ⟨?_, (Below.heap_setCell _ _ _ _ (by simp)).trans h.b1, h.bl.setCell (p := ⟨w.heap.size, o, none⟩) (by simp) _⟩
  rw [heap_setAt h.b0 o y]
  congr 2
  apply Array.ext
  · simp
  · intro i h1 h2
    simp at h1 h2
    have : i = 0 ∨ i = 1 ∨ i = 2 := by omega
    rcases this with rfl | rfl | rfl <;> simp
end
theorem HBx.outO {w w1 : World} {x0 x1 x2 : Value} (_h : HBx w w1 x0 x1 x2) (y0 y1 y2 : Value) {j : Nat} (hj : j ≠ w.heap.size + 1) : (((w1.setCell ⟨w.heap.size + 1, 0, none⟩ y0).setCell ⟨w.heap.size + 1, 1, none⟩ y1).setCell ⟨w.heap.size + 1, 2, none⟩ y2).heap[j]? = w1.heap[j]? :=
  (Below.heap_setCell _ _ _ _ hj).trans ((Below.heap_setCell _ _ _ _ hj).trans (Below.heap_setCell _ _ _ _ hj))

theorem cells3_of {V : World} {b : Nat} {x y z : Value} {t : TypeId} (h : V.heap[b]? = some (.cells #[x, y, z] t (0, 0))) : V.cell? ⟨b, 0, none⟩ = some x ∧ V.cell? ⟨b, 1, none⟩ = some y ∧ V.cell? ⟨b, 2, none⟩ = some z := by
  refine ⟨?_, ?_, ?_⟩ <;> simp [World.cell?, h]

set_option maxHeartbeats 4000000 in
set_option maxRecDepth 100000 in
theorem rHear_arg (base : Option Addr) (cap len : Nat) (now lost f a nw bad : Int) (w : World) (a0 : 0 ≤ a) (a1 : a < 4294967296) (hB : argB f a bad = false) :
    Calls Tryd.prog 34 #[RN base len cap now lost, .int .i64 f, .int .u32 a, .int .i64 nw, .int .i64 bad] w fun e w' => e = .returned (.tuple #[RN base len cap now lost, .int .i64 2]) ∧ Below w.heap.size w w' := by
  have K := Lib.hid (fun W => rKind_any a W a0 a1)
  have HX0 := Lib.hid (HBx.start w (.slice base len cap) (.int .i64 now) (.int .i64 lost))
  by_cases t1 : f < 0
  · replace t1 : decide (f < 0) = true := by simp [t1]
    go_enter Tryd.func34, Tryd.ntmps34
    go_wp2_with fail
    exact bodyPost_ret (v := .tuple #[RN base len cap now lost, .int .i64 2]) (by simp [results, Tryd.results34, go_sem]) rfl ⟨rfl, ((Below.refl _ _).alloc (Nat.le_refl _) _).alloc (by simp) _⟩
  by_cases t2 : 15 < f
  · replace t1 : decide (f < 0) = false := by simp; omega
    replace t2 : decide (15 < f) = true := by simp [t2]
    go_enter Tryd.func34, Tryd.ntmps34
    go_wp2_with fail
    exact bodyPost_ret (v := .tuple #[RN base len cap now lost, .int .i64 2]) (by simp [results, Tryd.results34, go_sem]) rfl ⟨rfl, ((Below.refl _ _).alloc (Nat.le_refl _) _).alloc (by simp) _⟩
  have t1' : decide (f < 0) = false := by simp; omega
  have t2' : decide (15 < f) = false := by simp; omega
  have t3 : (kindI a != 6) = true ∨ ((kindI a != 6) = false ∧ decide (bad < 0) = true) := by
    unfold argB at hB
    simp at hB
    by_cases hk : kindI a = 6
    · right
      refine ⟨by simp [hk], ?_⟩
      have := hB (by omega) (by omega) hk
      simp
      omega
    · left
      simpa using hk
  clear t1 t2 hB
  rcases t3 with t3 | ⟨t3, t4⟩
  · go_enter Tryd.func34, Tryd.ntmps34
    go_wp2_with (go_at_call 44; refine (K.out _).mono ?_; rintro e w1 ⟨rfl, hb⟩; have hx := HX0.out.below hb; have d0 := hx.d0; have d1 := hx.d1; have d2 := hx.d2; have e0 := hx.e0; have e1 := hx.e1; have e2 := hx.e2; have f1 := hx.f1; have HX := Lib.hid hx; clear hx hb)
    obtain ⟨c0, c1, c2⟩ := cells3_of (HX.out.out (.slice base len cap) (.int .i64 now) (.int .i64 lost))
    exact bodyPost_ret (v := .tuple #[RN base len cap now lost, .int .i64 2]) (by simp [results, Tryd.results34, go_sem, c0, c1, c2]) rfl ⟨rfl, HX.out.outB _ _ _⟩
  · go_enter Tryd.func34, Tryd.ntmps34
    go_wp2_with (go_at_call 44; refine (K.out _).mono ?_; rintro e w1 ⟨rfl, hb⟩; have hx := HX0.out.below hb; have d0 := hx.d0; have d1 := hx.d1; have d2 := hx.d2; have e0 := hx.e0; have e1 := hx.e1; have e2 := hx.e2; have f1 := hx.f1; have HX := Lib.hid hx; clear hx hb)
    obtain ⟨c0, c1, c2⟩ := cells3_of (HX.out.out (.slice base len cap) (.int .i64 now) (.int .i64 lost))
    exact bodyPost_ret (v := .tuple #[RN base len cap now lost, .int .i64 2]) (by simp [results, Tryd.results34, go_sem, c0, c1, c2]) rfl ⟨rfl, HX.out.outB _ _ _⟩

set_option maxHeartbeats 4000000 in
set_option maxRecDepth 100000 in
theorem rHear_time (base : Option Addr) (cap len : Nat) (now lost f a nw bad : Int) (w : World) (a0 : 0 ≤ a) (a1 : a < 4294967296) (hB : argB f a bad = true) (hT : timeB nw = false ∨ nw < now) :
    Calls Tryd.prog 34 #[RN base len cap now lost, .int .i64 f, .int .u32 a, .int .i64 nw, .int .i64 bad] w fun e w' => e = .returned (.tuple #[RN base len cap now lost, .int .i64 170]) ∧ Below w.heap.size w w' := by
  have K := Lib.hid (fun W => rKind_any a W a0 a1)
  have HX0 := Lib.hid (HBx.start w (.slice base len cap) (.int .i64 now) (.int .i64 lost))
  obtain ⟨g1, g2, g3, g4⟩ := argB_iff.1 hB
  have t1 : decide (f < 0) = false := by simp; omega
  have t2 : decide (15 < f) = false := by simp; omega
  have t3 : (kindI a != 6) = false := by simp [g3]
  have t4 : decide (bad < 0) = false := by simp; omega
  clear g1 g2 g3 g4 hB
  cases h5 : timeB nw with
  | false =>
    go_enter Tryd.func34, Tryd.ntmps34
    go_wp2_with (first
      | (go_at_call 44; refine (K.out _).mono ?_; rintro e w1 ⟨rfl, hb⟩; have hx := HX0.out.below hb; have d0 := hx.d0; have d1 := hx.d1; have d2 := hx.d2; have e0 := hx.e0; have e1 := hx.e1; have e2 := hx.e2; have f1 := hx.f1; have HX := Lib.hid hx; clear hx hb)
      | (go_at_call 45; refine (Time_any _ _).mono ?_; rw [h5]; rintro e w2 ⟨rfl, rfl⟩))
    obtain ⟨c0, c1, c2⟩ := cells3_of (HX.out.out (.slice base len cap) (.int .i64 now) (.int .i64 lost))
    exact bodyPost_ret (v := .tuple #[RN base len cap now lost, .int .i64 170]) (by simp [results, Tryd.results34, go_sem, c0, c1, c2]) rfl ⟨rfl, HX.out.outB _ _ _⟩
  | true =>
    have t5 : decide (nw < now) = true := by
      rcases hT with h | h
      · rw [h5] at h; cases h
      · simp [h]
    go_enter Tryd.func34, Tryd.ntmps34
    go_wp2_with (first
      | (go_at_call 44; refine (K.out _).mono ?_; rintro e w1 ⟨rfl, hb⟩; have hx := HX0.out.below hb; have d0 := hx.d0; have d1 := hx.d1; have d2 := hx.d2; have e0 := hx.e0; have e1 := hx.e1; have e2 := hx.e2; have f1 := hx.f1; have HX := Lib.hid hx; clear hx hb)
      | (go_at_call 45; refine (Time_any _ _).mono ?_; rw [h5]; rintro e w2 ⟨rfl, rfl⟩))
    obtain ⟨c0, c1, c2⟩ := cells3_of (HX.out.out (.slice base len cap) (.int .i64 now) (.int .i64 lost))
    exact bodyPost_ret (v := .tuple #[RN base len cap now lost, .int .i64 170]) (by simp [results, Tryd.results34, go_sem, c0, c1, c2]) rfl ⟨rfl, HX.out.outB _ _ _⟩
end Go.Proofs.YtahkhecfnimdbaaDoor
