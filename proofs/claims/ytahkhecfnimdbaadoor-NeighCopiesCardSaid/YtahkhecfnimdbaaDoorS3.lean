/- The order of keys; slices.SortFunc at keys. -/
import Derived.Test.YtahkhecfnimdbaaDoorS2
import Derived.RegionTactic
import Derived.Shelf.SlSortCmp.NoneTotal
import Derived.Shelf.SlSortCmp.WholeK
import Derived.Ground.SlsfProg
import Derived.Test.YtahkhecfnimdbaaDoorShelf
namespace Go.Proofs.YtahkhecfnimdbaaDoor
open Go.RowKit Go.Shelf Go.Maps Go.Sort

def cmpI (x y : Int) : Int := if x < y then -1 else if y < x then 1 else 0
set_option maxHeartbeats 400000 in
theorem CompareA (x y : Int) (w : World) :
    Calls Tryd.prog 65 #[.int .u32 x, .int .u32 y] w fun e w' => e = .returned (.int .i64 (cmpI x y)) ∧ w = w' := by
  by_cases c1 : x < y
  · have t1 : decide (x < y) = true := by simp; omega
    go_enter Tryd.func65, Tryd.ntmps65
    go_wp2
    go_ret
    exact ⟨ret_int (by simp [cmpI, c1]), rfl⟩
  · have t1 : decide (x < y) = false := by simp; omega
    by_cases c2 : y < x
    · have t2 : decide (y < x) = true := by simp; omega
      go_enter Tryd.func65, Tryd.ntmps65
      go_wp2
      go_ret
      exact ⟨ret_int (by unfold cmpI; rw [if_neg (by omega), if_pos c2]), rfl⟩
    · have t2 : decide (y < x) = false := by simp; omega
      go_enter Tryd.func65, Tryd.ntmps65
      go_wp2
      go_ret
      exact ⟨ret_int (by unfold cmpI; rw [if_neg (by omega), if_neg (by omega)]), rfl⟩
set_option maxHeartbeats 400000 in
theorem CompareI (x y : Int) (w : World) :
    Calls Tryd.prog 64 #[.int .i64 x, .int .i64 y] w fun e w' => e = .returned (.int .i64 (cmpI x y)) ∧ w = w' := by
  by_cases c1 : x < y
  · have t1 : decide (x < y) = true := by simp; omega
    go_enter Tryd.func64, Tryd.ntmps64
    go_wp2
    go_ret
    exact ⟨ret_int (by simp [cmpI, c1]), rfl⟩
  · have t1 : decide (x < y) = false := by simp; omega
    by_cases c2 : y < x
    · have t2 : decide (y < x) = true := by simp; omega
      go_enter Tryd.func64, Tryd.ntmps64
      go_wp2
      go_ret
      exact ⟨ret_int (by unfold cmpI; rw [if_neg (by omega), if_pos c2]), rfl⟩
    · have t2 : decide (y < x) = false := by simp; omega
      go_enter Tryd.func64, Tryd.ntmps64
      go_wp2
      go_ret
      exact ⟨ret_int (by unfold cmpI; rw [if_neg (by omega), if_neg (by omega)]), rfl⟩

def orI (x y : Int) : Int := if x = 0 then y else x
set_option maxHeartbeats 400000 in
theorem Or2 (b : Nat) (x y : Int) (w : World) (c0 : w.cell? ⟨b, 0, none⟩ = some (.int .i64 x)) (c1 : w.cell? ⟨b, 1, none⟩ = some (.int .i64 y)) :
    Calls Tryd.prog 63 #[.slice (some ⟨b, 0, none⟩) 2 2] w fun e w' => e = .returned (.int .i64 (orI x y)) ∧ w = w' := by
  by_cases hx : x = 0
  · subst hx
    by_cases hy : y = 0
    · subst hy
      go_enter Tryd.func63, Tryd.ntmps63
      go_wp2
      refine wp_loop_rounds 3 ?_
      rw [rounds_succ]
      go_wp2
      rw [rounds_succ]
      go_wp2
      rw [rounds_succ]
      go_wp2
      go_ret
      exact ⟨rfl, rfl⟩
    · have t2 : (y != 0) = true := by simpa using hy
      clear hy
      go_enter Tryd.func63, Tryd.ntmps63
      go_wp2
      refine wp_loop_rounds 3 ?_
      rw [rounds_succ]
      go_wp2
      rw [rounds_succ]
      go_wp2
      go_ret
      exact ⟨rfl, rfl⟩
  · have t1 : (x != 0) = true := by simpa using hx
    have H := Lib.hid hx
    clear hx
    go_enter Tryd.func63, Tryd.ntmps63
    go_wp2
    refine wp_loop_rounds 3 ?_
    rw [rounds_succ]
    go_wp2
    go_ret
    exact ⟨ret_int (by unfold orI; rw [if_neg H.out]), rfl⟩

def ordK (x y : Int × Int) : Int := orI (cmpI x.1 y.1) (cmpI x.2 y.2)
set_option maxRecDepth 100000 in
set_option maxHeartbeats 400000 in
theorem order_any (x y : Int × Int) (w : World) :
    Calls Tryd.prog 49 #[.agg #[.int .i64 x.1, .int .u32 x.2], .agg #[.int .i64 y.1, .int .u32 y.2]] w fun e w' => e = .returned (.int .i64 (ordK x y)) ∧ ∃ q os', w' = grow (w.drewN q) os' := by
  obtain ⟨pa, pn⟩ := x
  obtain ⟨qa, qn⟩ := y
  go_enter Tryd.func49, Tryd.ntmps49
  go_wp2_with fail
  go_region_held3 (fun w' => w'.cell? ⟨w.heap.size, 0, none⟩ = some (.int .i64 pa) ∧ w'.cell? ⟨w.heap.size, 1, none⟩ = some (.int .u32 pn) ∧ w'.cell? ⟨w.heap.size + 1, 0, none⟩ = some (.int .i64 qa) ∧ w'.cell? ⟨w.heap.size + 1, 1, none⟩ = some (.int .u32 qn))
    (go_keep)
    (first | (go_at_call 65; refine (CompareA _ _ _).mono ?_; rintro e w' ⟨rfl, rfl⟩) | (go_at_call 64; refine (CompareI _ _ _).mono ?_; rintro e w' ⟨rfl, rfl⟩) | (go_at_call 63; refine (Or2 _ (cmpI pa qa) (cmpI pn qn) _ (by simp [go_sem]) (by simp [go_sem])).mono ?_; rintro e w' ⟨rfl, rfl⟩))
  go_wp2
  go_ret
  exact ⟨rfl, 1, #[_, _, _], rfl⟩

theorem ordK_lt (x y : Int × Int) : ltOf ordK x y = decide (x.1 < y.1 ∨ (x.1 = y.1 ∧ x.2 < y.2)) := by
  unfold ltOf ordK orI cmpI
  rw [Bool.eq_iff_iff, decide_eq_true_eq, decide_eq_true_eq]
  repeat' split <;> omega
theorem ordK_swo : SWO (ltOf ordK) where
  irrefl x := by rw [ordK_lt]; simp
  trans x y z h1 h2 := by rw [ordK_lt] at *; simp at *; omega
  ntrans x y z h1 h2 := by rw [ordK_lt] at *; simp at *; omega
theorem ordK_total (x y : Int × Int) (h1 : ltOf ordK x y = false) (h2 : ltOf ordK y x = false) : x = y := by
  rw [ordK_lt] at *
  obtain ⟨a, b⟩ := x
  obtain ⟨c, d⟩ := y
  simp at *
  omega

theorem isAgg66 (w : World) : (isAgg 66).run Tryd.prog w = .ok true w := by kernel_rfl
theorem sizeOf66 (w : World) : (Go.sizeOf 66).run Tryd.prog w = .ok 2 w := by kernel_rfl
theorem cmpLays49 (blk off size : Nat) (w : World) : CmpLays Tryd.prog 49 #[] kC 2 ordK blk off size w :=
  fun _ _ _ _ x y => order_any x y _

/-- the keys in their order -/
def sortK (ss : List (Int × Int)) : List (Int × Int) := ss.mergeSort fun x y => !(ltOf ordK) y x
theorem SortFunc_any (blk cap : Nat) (d : Array (Int × Int)) (w : World) (hH : HoldsK kC 2 w blk 0 d) (hblk : blk < w.heap.size) (hsz : d.size < 1000) :
    Calls Tryd.prog 61 #[.slice (some ⟨blk, 0, none⟩) d.size cap, .func (.func 49) #[] #[]] w fun e w' => e = .returned (.tuple #[]) ∧ ∃ n os, w' = sortWorldK kC 2 w blk 0 n (sortK d.toList).toArray os :=
  AnyQ.slices_SortFunc_total Tryd.sortK 2 isAgg66 sizeOf66 kC (fun _ => rfl) (fun x v hv => by simp [kC] at hv; rcases hv with rfl | rfl <;> rfl) ordK ordK_swo 49 #[] blk 0 cap d w
    (enters_of Tryd.func49 (by kernel_rfl) rfl) (cmpLays49 blk 0 d.size w) hH hblk (by omega) ordK_total
theorem SortFunc_none (w : World) (cap : Nat) : Calls Tryd.prog 61 #[.slice none 0 cap, .func (.func 49) #[] #[]] w fun e w' => e = .returned (.tuple #[]) ∧ w' = w :=
  AnyF.slices_SortFunc_none Tryd.sortK none cap _ w
end Go.Proofs.YtahkhecfnimdbaaDoor
