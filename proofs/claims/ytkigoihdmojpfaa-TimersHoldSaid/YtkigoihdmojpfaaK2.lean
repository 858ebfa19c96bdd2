/- The order of rows; places in the map of a queue. -/
import Derived.Test.YtkigoihdmojpfaaK1
import Derived.Shelf.SlSortCmp.NoneTotal
namespace Go.Proofs.Ytkigoihdmojpfaa
open Go.RowKit
open Go.Sort (grow)

/-- later: draws, and new blocks behind -/
def GB (w w' : World) : Prop := ∃ q os, w' = grow (w.drewN q) os
theorem GB.refl (w : World) : GB w w := ⟨0, #[], by simp [Go.Sort.grow, World.drewN]⟩
theorem GB.alloc {w w' : World} (h : GB w w') (o : Obj) : GB w (w'.alloc o) := by
  obtain ⟨q, os, rfl⟩ := h
  exact ⟨q, os ++ #[o], by rw [Go.Sort.alloc_eq_grow, Go.Sort.grow_grow]⟩
theorem GB.drew {w w' : World} (h : GB w w') : GB w w'.drew := by
  obtain ⟨q, os, rfl⟩ := h
  exact ⟨q + 1, os, by simp [Go.Sort.grow, World.drewN, World.drew, Nat.add_assoc]⟩
theorem GB.trans {a b c : World} (h : GB a b) (k : GB b c) : GB a c := by
  obtain ⟨q, os, rfl⟩ := h
  obtain ⟨q', os', rfl⟩ := k
  exact ⟨q + q', os ++ os', by simp [Go.Sort.grow, World.drewN, Array.append_assoc, Nat.add_assoc]⟩
theorem GB.below {w w' : World} (h : GB w w') : Below w.heap.size w w' := by
  obtain ⟨q, os, rfl⟩ := h
  exact ⟨rfl, rfl, rfl, by simp [Go.Sort.grow, World.drewN], fun k hk => by simp [Go.Sort.grow, World.drewN, Array.getElem?_append, hk]⟩

set_option maxHeartbeats 400000 in
theorem CompareL (x y : Int) (w : World) :
    Calls Try.prog 60 #[.int .i64 x, .int .i64 y] w fun e w' => e = .returned (.int .i64 (cmpI x y)) ∧ w = w' := by
  by_cases c1 : x < y
  · have t1 : decide (x < y) = true := by simp; omega
    go_enter Try.func60, Try.ntmps60
    go_wp2
    go_ret
    exact ⟨ret_int (by simp [cmpI, c1]), rfl⟩
  · have t1 : decide (x < y) = false := by simp; omega
    by_cases c2 : y < x
    · have t2 : decide (y < x) = true := by simp; omega
      go_enter Try.func60, Try.ntmps60
      go_wp2
      go_ret
      exact ⟨ret_int (by unfold cmpI; rw [if_neg (by omega), if_pos c2]), rfl⟩
    · have t2 : decide (y < x) = false := by simp; omega
      go_enter Try.func60, Try.ntmps60
      go_wp2
      go_ret
      exact ⟨ret_int (by unfold cmpI; rw [if_neg (by omega), if_neg (by omega)]), rfl⟩

set_option maxHeartbeats 400000 in
theorem CompareK (x y : Int) (w : World) :
    Calls Try.prog 61 #[.int .i64 x, .int .i64 y] w fun e w' => e = .returned (.int .i64 (cmpI x y)) ∧ w = w' := by
  by_cases c1 : x < y
  · have t1 : decide (x < y) = true := by simp; omega
    go_enter Try.func61, Try.ntmps61
    go_wp2
    go_ret
    exact ⟨ret_int (by simp [cmpI, c1]), rfl⟩
  · have t1 : decide (x < y) = false := by simp; omega
    by_cases c2 : y < x
    · have t2 : decide (y < x) = true := by simp; omega
      go_enter Try.func61, Try.ntmps61
      go_wp2
      go_ret
      exact ⟨ret_int (by unfold cmpI; rw [if_neg (by omega), if_pos c2]), rfl⟩
    · have t2 : decide (y < x) = false := by simp; omega
      go_enter Try.func61, Try.ntmps61
      go_wp2
      go_ret
      exact ⟨ret_int (by unfold cmpI; rw [if_neg (by omega), if_neg (by omega)]), rfl⟩

def or3 (x y z : Int) : Int := if x = 0 then orI y z else x
set_option maxHeartbeats 400000 in
theorem Or3 (b : Nat) (x y z : Int) (w : World) (c0 : w.cell? ⟨b, 0, none⟩ = some (.int .i64 x)) (c1 : w.cell? ⟨b, 1, none⟩ = some (.int .i64 y)) (c2 : w.cell? ⟨b, 2, none⟩ = some (.int .i64 z)) :
    Calls Try.prog 59 #[.slice (some ⟨b, 0, none⟩) 3 3] w fun e w' => e = .returned (.int .i64 (or3 x y z)) ∧ w = w' := by
  by_cases hx : x = 0
  · subst hx
    by_cases hy : y = 0
    · subst hy
      by_cases hz : z = 0
      · subst hz
        go_enter Try.func59, Try.ntmps59
        go_wp2
        refine wp_loop_rounds 4 ?_
        rw [rounds_succ]
        go_wp2
        rw [rounds_succ]
        go_wp2
        rw [rounds_succ]
        go_wp2
        rw [rounds_succ]
        go_wp2
        go_ret
        exact ⟨rfl, rfl⟩
      · have t3 : (z != 0) = true := by simpa using hz
        clear hz
        go_enter Try.func59, Try.ntmps59
        go_wp2
        refine wp_loop_rounds 4 ?_
        rw [rounds_succ]
        go_wp2
        rw [rounds_succ]
        go_wp2
        rw [rounds_succ]
        go_wp2
        go_ret
        exact ⟨rfl, rfl⟩
    · have t2 : (y != 0) = true := by simpa using hy
      have H := Lib.hid hy
      clear hy
      go_enter Try.func59, Try.ntmps59
      go_wp2
      refine wp_loop_rounds 4 ?_
      rw [rounds_succ]
      go_wp2
      rw [rounds_succ]
      go_wp2
      go_ret
      exact ⟨ret_int (by unfold or3 orI; rw [if_pos rfl, if_neg H.out]), rfl⟩
  · have t1 : (x != 0) = true := by simpa using hx
    have H := Lib.hid hx
    clear hx
    go_enter Try.func59, Try.ntmps59
    go_wp2
    refine wp_loop_rounds 4 ?_
    rw [rounds_succ]
    go_wp2
    go_ret
    exact ⟨ret_int (by unfold or3; rw [if_neg H.out]), rfl⟩

set_option maxRecDepth 100000 in
set_option maxHeartbeats 400000 in
theorem Order_g (pa pn qa qn : Int) (w : World) :
    Calls Try.prog 62 #[.agg #[.int .u32 pa, .int .i64 pn], .agg #[.int .u32 qa, .int .i64 qn]] w fun e w' => e = .returned (.int .i64 (ordI pa pn qa qn)) ∧ GB w w' := by
  go_enter Try.func62, Try.ntmps62
  go_wp2_with fail
  go_region_held3 (fun w' => w'.cell? ⟨w.heap.size, 0, none⟩ = some (.int .u32 pa) ∧ w'.cell? ⟨w.heap.size, 1, none⟩ = some (.int .i64 pn) ∧ w'.cell? ⟨w.heap.size + 1, 0, none⟩ = some (.int .u32 qa) ∧ w'.cell? ⟨w.heap.size + 1, 1, none⟩ = some (.int .i64 qn))
    (go_keep)
    (first | (go_at_call 68; refine (CompareA _ _ _).mono ?_; rintro e w' ⟨rfl, rfl⟩) | (go_at_call 69; refine (CompareI _ _ _).mono ?_; rintro e w' ⟨rfl, rfl⟩) | (go_at_call 59; refine (Or2 _ (cmpI pa qa) (cmpI pn qn) _ (by simp [go_sem]) (by simp [go_sem])).mono ?_; rintro e w' ⟨rfl, rfl⟩))
  go_wp2
  go_ret
  exact ⟨rfl, 1, #[_, _, _], rfl⟩

/-- the order of rows -/
def ordT (r s : TR) : Int := or3 (cmpI r.due s.due) (cmpI r.kind s.kind) (ordI r.addr r.len s.addr s.len)
theorem ordT_lt (r s : TR) : decide (ordT r s < 0) = ltT r s := by
  unfold ordT ltT or3 ordI orI cmpI
  rw [decide_eq_decide]
  repeat' split <;> omega

/-- a box of a row -/
def RBox (W : World) (B : Nat) (r : TR) : Prop := W.heap[B]? = some (.cells #[.int .i64 r.kind, .int .u32 r.addr, .int .i64 r.len, .int .i64 r.due] 85 (0, 0))
theorem RBox.lt {W : World} {B : Nat} {r : TR} (h : RBox W B r) : B < W.heap.size := (Array.getElem?_eq_some_iff.1 h).1
theorem RBox.c0 {W : World} {B : Nat} {r : TR} (h : RBox W B r) : W.cell? ⟨B, 0, none⟩ = some (.int .i64 r.kind) := by simp [World.cell?, show W.heap[B]? = _ from h]
theorem RBox.c1 {W : World} {B : Nat} {r : TR} (h : RBox W B r) : W.cell? ⟨B, 1, none⟩ = some (.int .u32 r.addr) := by simp [World.cell?, show W.heap[B]? = _ from h]
theorem RBox.c2 {W : World} {B : Nat} {r : TR} (h : RBox W B r) : W.cell? ⟨B, 2, none⟩ = some (.int .i64 r.len) := by simp [World.cell?, show W.heap[B]? = _ from h]
theorem RBox.c3 {W : World} {B : Nat} {r : TR} (h : RBox W B r) : W.cell? ⟨B, 3, none⟩ = some (.int .i64 r.due) := by simp [World.cell?, show W.heap[B]? = _ from h]
theorem RBox.below {W W' : World} {B : Nat} {r : TR} (h : RBox W B r) (hb : Below W.heap.size W W') : RBox W' B r := (hb.block B h.lt).trans h
theorem RBox.new (W : World) (r : TR) : RBox (W.alloc (.cells #[.int .i64 r.kind, .int .u32 r.addr, .int .i64 r.len, .int .i64 r.due] 85)) W.heap.size r := heap_alloc_new W _
theorem RBox.alloc {W : World} {B : Nat} {r : TR} (h : RBox W B r) (o : Obj) : RBox (W.alloc o) B r := h.below ((Below.refl _ W).alloc (Nat.le_refl _) o)

set_option maxRecDepth 100000 in
set_option maxHeartbeats 4000000 in
theorem order_g (r s : TR) (w : World) :
    Calls Try.prog 51 #[rowV r, rowV s] w fun e w' => e = .returned (.int .i64 (ordT r s)) ∧ GB w w' := by
  obtain ⟨rk, ra, rn, rd⟩ := r
  obtain ⟨sk, sa, sn, sd⟩ := s
  unfold rowV ordT
  have HF := Lib.hid (fun (W : World) (hb : GB ((w.alloc (.cells #[.int .i64 rk, .int .u32 ra, .int .i64 rn, .int .i64 rd] 85)).alloc (.cells #[.int .i64 sk, .int .u32 sa, .int .i64 sn, .int .i64 sd] 85)) W) =>
    show (RBox W w.heap.size ⟨rk, ra, rn, rd⟩ ∧ RBox W (w.heap.size + 1) ⟨sk, sa, sn, sd⟩) from
      ⟨((RBox.new w ⟨rk, ra, rn, rd⟩).alloc _).below hb.below, (by have := RBox.new (w.alloc (.cells #[.int .i64 rk, .int .u32 ra, .int .i64 rn, .int .i64 rd] 85)) ⟨sk, sa, sn, sd⟩; rw [World.size_alloc] at this; exact this.below hb.below)⟩)
  have HG0 := Lib.hid (((GB.refl w).alloc (.cells #[.int .i64 rk, .int .u32 ra, .int .i64 rn, .int .i64 rd] 85)).alloc (.cells #[.int .i64 sk, .int .u32 sa, .int .i64 sn, .int .i64 sd] 85))
  go_enter Try.func51, Try.ntmps51
  go_wp2_with fail
  generalize hX : ((w.alloc (.cells #[.int .i64 rk, .int .u32 ra, .int .i64 rn, .int .i64 rd] 85)).alloc (.cells #[.int .i64 sk, .int .u32 sa, .int .i64 sn, .int .i64 sd] 85)) = X at *
  have HV := Lib.hid ((GB.refl X).drew)
  obtain ⟨f0, f1⟩ := HF.out X (GB.refl X)
  have c0 := f0.c0
  have c1 := f0.c1
  have c2 := f0.c2
  have c3 := f0.c3
  have d0 := f1.c0
  have d1 := f1.c1
  have d2 := f1.c2
  have d3 := f1.c3
  clear f0 f1 hX
  go_region_held3 (fun w' => w'.cell? ⟨w.heap.size, 0, none⟩ = some (.int .i64 rk) ∧ w'.cell? ⟨w.heap.size, 1, none⟩ = some (.int .u32 ra) ∧ w'.cell? ⟨w.heap.size, 2, none⟩ = some (.int .i64 rn) ∧ w'.cell? ⟨w.heap.size, 3, none⟩ = some (.int .i64 rd) ∧ w'.cell? ⟨w.heap.size + 1, 0, none⟩ = some (.int .i64 sk) ∧ w'.cell? ⟨w.heap.size + 1, 1, none⟩ = some (.int .u32 sa) ∧ w'.cell? ⟨w.heap.size + 1, 2, none⟩ = some (.int .i64 sn) ∧ w'.cell? ⟨w.heap.size + 1, 3, none⟩ = some (.int .i64 sd))
    (first | exact ⟨k0, k1, k2, k3, k4, k5, k6, k7⟩ | go_keep)
    (first | (go_at_call 60; refine (CompareL _ _ _).mono ?_; rintro e w' ⟨rfl, rfl⟩) | (go_at_call 61; refine (CompareK _ _ _).mono ?_; rintro e w' ⟨rfl, rfl⟩) | (go_at_call 62; (with_reducible refine (Order_g _ _ _ _ _).mono ?_); rintro e w2 ⟨rfl, hg2⟩; have HV2 := Lib.hid (HV.out.trans hg2); have hff := HF.out _ HV2.out; have k0 := hff.1.c0; have k1 := hff.1.c1; have k2 := hff.1.c2; have k3 := hff.1.c3; have k4 := hff.2.c0; have k5 := hff.2.c1; have k6 := hff.2.c2; have k7 := hff.2.c3; clear hff hg2) | (go_at_call 59; refine (Or3 _ (cmpI rd sd) (cmpI rk sk) (ordI ra rn sa sn) _ (by simp [go_sem]) (by simp [go_sem]) (by simp [go_sem])).mono ?_; rintro e w' ⟨rfl, rfl⟩))
  go_wp2
  go_ret
  exact ⟨rfl, HG0.out.trans (HV2.out.alloc _)⟩
end Go.Proofs.Ytkigoihdmojpfaa
