/- The reference: Find. -/
import Derived.Test.YtbacahoihkpkpaaDoorU13
namespace Go.Proofs.YtbacahoihkpkpaaDoor
open Go.RowKit Go.Shelf Go.Maps

def rfindV : Option (Key × Int) → Value
  | none => .tuple #[.agg #[.int .u32 0, .int .i64 0, .int .i64 0], .bool false]
  | some x => .tuple #[.agg #[.int .u32 (ka x.1), .int .i64 x.1.length, .int .i64 x.2], .bool true]
/-- a box of a row -/
def RBox (W : World) (B : Nat) (a n x : Int) : Prop := W.heap[B]? = some (.cells #[.int .u32 a, .int .i64 n, .int .i64 x] 37 (0, 0))
theorem RBox.lt {W : World} {B : Nat} {a n x : Int} (h : RBox W B a n x) : B < W.heap.size := (Array.getElem?_eq_some_iff.1 h).1
theorem RBox.c0 {W : World} {B : Nat} {a n x : Int} (h : RBox W B a n x) : W.cell? ⟨B, 0, none⟩ = some (.int .u32 a) := by simp [World.cell?, show W.heap[B]? = _ from h]
theorem RBox.c1 {W : World} {B : Nat} {a n x : Int} (h : RBox W B a n x) : W.cell? ⟨B, 1, none⟩ = some (.int .i64 n) := by simp [World.cell?, show W.heap[B]? = _ from h]
theorem RBox.c2 {W : World} {B : Nat} {a n x : Int} (h : RBox W B a n x) : W.cell? ⟨B, 2, none⟩ = some (.int .i64 x) := by simp [World.cell?, show W.heap[B]? = _ from h]
theorem RBox.f {W : World} {B : Nat} {a n x : Int} (h : RBox W B a n x) (o : Nat) : W.frozen? ⟨B, o, none⟩ = false := by simp [World.frozen?, show W.heap[B]? = _ from h]
theorem RBox.new (W : World) (a n x : Int) : RBox (W.alloc (.cells #[.int .u32 a, .int .i64 n, .int .i64 x] 37)) W.heap.size a n x := World.alloc_heap_new W _
theorem RBox.below {W W' : World} {B : Nat} {a n x : Int} (h : RBox W B a n x) (hb : Below W.heap.size W W') : RBox W' B a n x := (hb.block B h.lt).trans h
theorem RBox.set {W : World} {B : Nat} {a n x : Int} (a' n' x' : Int) (h : RBox W B a n x) : RBox (((W.setCell ⟨B, 0, none⟩ (.int .u32 a')).setCell ⟨B, 1, none⟩ (.int .i64 n')).setCell ⟨B, 2, none⟩ (.int .i64 x')) B a' n' x' :=
  heap_set1 _ (heap_set1 _ (heap_set1 _ h))

set_option maxRecDepth 100000 in
set_option maxHeartbeats 4000000 in
theorem rFind_any (v : Value) (g : Nat) (L : List (Key × Int)) (A : Key) (w : World) (hS : RT w g v L) (hO : TT.OrdR L) (hA : A.length = 32) (hl : L.length ≤ 1000) :
    Calls Tryd.prog 12 #[v, .int .u32 (ka A)] w fun e w' => e = .returned (rfindV (L.filter fun x => decide (x.1 <+: A)).getLast?) ∧ Below w.heap.size w w' := by
  have hab := fun W (h : RT W g v L) => rAbove_key v g L A W h hO (by omega) hl
  rw [hA, show ((32 : Nat) : Int) = 32 from rfl] at hab
  have HAb := Lib.hid hab
  have HS0 := Lib.hid hS
  obtain ⟨base, cap, rfl, _, _⟩ := hS.ex
  have hlf : (L.filter fun x => decide (x.1 <+: A)).length ≤ 1000 := Nat.le_trans (List.length_filter_le _ _) hl
  have b0 : Below w.heap.size w ((w.alloc (.cells #[.slice base L.length cap] 31)).alloc (.cells #[.int .u32 0, .int .i64 0, .int .i64 0] 37)) := ((Below.refl _ w).alloc (Nat.le_refl _) _).alloc (by simp) _
  have o0 : OneB ((w.alloc (.cells #[.slice base L.length cap] 31)).alloc (.cells #[.int .u32 0, .int .i64 0, .int .i64 0] 37)) w.heap.size (.slice base L.length cap) 31 := (OneB.new w _ _).alloc _
  have r0 : RBox ((w.alloc (.cells #[.slice base L.length cap] 31)).alloc (.cells #[.int .u32 0, .int .i64 0, .int .i64 0] 37)) (w.heap.size + 1) 0 0 0 := by
    have := RBox.new (w.alloc (.cells #[.slice base L.length cap] 31)) 0 0 0
    rwa [World.size_alloc] at this
  have HB0 := Lib.hid b0
  have HO0 := Lib.hid o0
  have HR0 := Lib.hid r0
  have d0 := o0.c
  clear hab hS b0 o0 r0 hO
  revert HAb hlf
  generalize (L.filter fun x => decide (x.1 <+: A)) = M
  intro HAb hlf
  rcases Nat.eq_zero_or_pos M.length with hz | hz
  · obtain rfl : M = [] := List.eq_nil_of_length_eq_zero hz
    clear hz hlf
    go_enter Tryd.func12, Tryd.ntmps12
    go_upto_region 1 with fail
    generalize ((w.alloc (.cells #[.slice base L.length cap] 31)).alloc (.cells #[.int .u32 0, .int .i64 0, .int .i64 0] 37)) = X at *
    go_wp2_with (first
      | (go_at_call 16; with_reducible refine (HAb.out _ (HS0.out.below HB0.out)).mono ?_; rintro e w2 ⟨v2, rfl, hsl, hb⟩; obtain ⟨b2, g2, o2, c2, rfl, _, _⟩ := hsl.ex; have HB := Lib.hid hb; have hr2 := HR0.out.below hb; have HR2 := Lib.hid hr2; have f := hr2.f; have k0 := hr2.c0; have k1 := hr2.c1; have k2 := hr2.c2; clear d0 hsl hb hr2)
      | fail)
    have q := HR2.out.set 0 0 0
    have hbb := (((bthen HB0.out HB.out).setCell (p := ⟨w.heap.size + 1, 0, none⟩) (by simp) (.int .u32 0)).setCell (p := ⟨w.heap.size + 1, 1, none⟩) (by simp) (.int .i64 0)).setCell (p := ⟨w.heap.size + 1, 2, none⟩) (by simp) (.int .i64 0)
    generalize (((w2.setCell ⟨w.heap.size + 1, 0, none⟩ (.int .u32 0)).setCell ⟨w.heap.size + 1, 1, none⟩ (.int .i64 0)).setCell ⟨w.heap.size + 1, 2, none⟩ (.int .i64 0)) = V at *
    have q0 := q.c0
    have q1 := q.c1
    have q2 := q.c2
    exact bodyPost_ret (v := .tuple #[.agg #[.int .u32 0, .int .i64 0, .int .i64 0], .bool false]) (by simp [results, Tryd.results12, go_sem, q0, q1, q2]) rfl ⟨rfl, hbb⟩
  · obtain ⟨m, hm⟩ : ∃ m, M.length = m + 1 := ⟨M.length - 1, by omega⟩
    obtain ⟨x, hx⟩ : ∃ x, M[m]? = some x := ⟨_, List.getElem?_eq_getElem (by omega)⟩
    have hlx : M.getLast? = some x := by rw [List.getLast?_eq_getElem?, hm]; exact hx
    rw [hlx]
    have t0 : (((m : Int) + 1) == 0) = false := by simp; omega
    clear hlx
    go_enter Tryd.func12, Tryd.ntmps12
    go_upto_region 1 with fail
    generalize ((w.alloc (.cells #[.slice base L.length cap] 31)).alloc (.cells #[.int .u32 0, .int .i64 0, .int .i64 0] 37)) = X at *
    go_wp2_with (first
      | (go_at_call 16; with_reducible refine (HAb.out _ (HS0.out.below HB0.out)).mono ?_; rintro e w2 ⟨v2, rfl, hsl, hb⟩; obtain ⟨b2, g2, o2, c2, rfl, hrl, _⟩ := hsl.ex; have HB := Lib.hid hb; have hr2 := HR0.out.below hb; have HR2 := Lib.hid hr2; have f := hr2.f; have k0 := hr2.c0; have k1 := hr2.c1; have k2 := hr2.c2; obtain ⟨rfl, z0, z1, z2⟩ := hrl.row m x hx; clear d0 hsl hb hr2 hrl)
      | fail)
    have q := HR2.out.set (ka x.1) x.1.length x.2
    have hbb := (((bthen HB0.out HB.out).setCell (p := ⟨w.heap.size + 1, 0, none⟩) (by simp) (.int .u32 (ka x.1))).setCell (p := ⟨w.heap.size + 1, 1, none⟩) (by simp) (.int .i64 x.1.length)).setCell (p := ⟨w.heap.size + 1, 2, none⟩) (by simp) (.int .i64 x.2)
    generalize (((w2.setCell ⟨w.heap.size + 1, 0, none⟩ (.int .u32 (ka x.1))).setCell ⟨w.heap.size + 1, 1, none⟩ (.int .i64 x.1.length)).setCell ⟨w.heap.size + 1, 2, none⟩ (.int .i64 x.2)) = V at *
    have q0 := q.c0
    have q1 := q.c1
    have q2 := q.c2
    exact bodyPost_ret (v := .tuple #[.agg #[.int .u32 (ka x.1), .int .i64 x.1.length, .int .i64 x.2], .bool true]) (by simp [results, Tryd.results12, go_sem, q0, q1, q2]) rfl ⟨rfl, hbb⟩
end Go.Proofs.YtbacahoihkpkpaaDoor
