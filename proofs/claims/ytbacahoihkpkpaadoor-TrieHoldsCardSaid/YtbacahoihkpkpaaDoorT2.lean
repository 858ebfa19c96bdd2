/- Contracts: trie.New, none, kept, row, isOrWithin, down, told. -/
import Derived.Test.YtbacahoihkpkpaaDoorT1
namespace Go.Proofs.YtbacahoihkpkpaaDoor
open Go.RowKit

set_option maxHeartbeats 400000 in
theorem New_any (w : World) : Calls Tryd.prog 18 #[] w fun e w' => e = .returned (.pointer (some ⟨w.heap.size, 0, none⟩)) ∧ w' = w.alloc (.cells #[.pointer none, .int .i64 0, .bool true] 84) := by
  go_enter Tryd.func18, Tryd.ntmps18
  go_wp2
  go_ret
  exact ⟨rfl, rfl⟩
theorem new_st (w : World) : TrS (w.alloc (.cells #[.pointer none, .int .i64 0, .bool true] 84)) w.heap.size .nil :=
  ⟨World.alloc_heap_new w _, trivial, by simp [TT.blocks], trivial⟩

set_option maxHeartbeats 400000 in
theorem none_t (q : Nat) (t : TT) (w : World) (h : TrS w q t) : Calls Tryd.prog 34 #[.pointer (some ⟨q, 0, none⟩)] w fun e w' => e = .returned (.bool false) ∧ w = w' := by
  have c2 := h.c2
  go_enter Tryd.func34, Tryd.ntmps34
  go_wp2
  go_ret
  exact ⟨rfl, rfl⟩
set_option maxHeartbeats 400000 in
theorem none_n (w : World) : Calls Tryd.prog 34 #[.pointer none] w fun e w' => e = .returned (.bool true) ∧ w = w' := by
  go_enter Tryd.func34, Tryd.ntmps34
  go_wp2
  go_ret
  exact ⟨rfl, rfl⟩

set_option maxHeartbeats 400000 in
theorem kept_any (b : Nat) (k : Key) (o : Option Int) (l r : TT) (w : World) (h : (TT.node b k o l r).In w) : Calls Tryd.prog 65 #[.pointer (some ⟨b, 0, none⟩)] w fun e w' => e = .returned (TT.kept (.node b k o l r)).ptr ∧ w = w' := by
  have c3 := h.c3
  have c4 := h.c4
  have c5 := h.c5
  cases o with
  | some v =>
    simp only [Option.isSome_some] at c3
    go_enter Tryd.func65, Tryd.ntmps65
    go_wp2
    go_ret
    exact ⟨rfl, rfl⟩
  | none =>
    simp only [Option.isSome_none] at c3
    cases l with
    | nil =>
      simp only [TT.ptr] at c4
      generalize hp : r.ptr = rp at *
      have HP := Lib.hid hp
      clear hp h
      go_enter Tryd.func65, Tryd.ntmps65
      go_wp2
      go_ret
      exact ⟨by simp [TT.kept, TT.isN, HP.out], rfl⟩
    | node b1 k1 o1 l1 r1 =>
      simp only [TT.ptr] at c4
      cases r with
      | nil =>
        simp only [TT.ptr] at c5
        clear h
        go_enter Tryd.func65, Tryd.ntmps65
        go_wp2
        go_ret
        exact ⟨rfl, rfl⟩
      | node b2 k2 o2 l2 r2 =>
        simp only [TT.ptr] at c5
        clear h
        go_enter Tryd.func65, Tryd.ntmps65
        go_wp2
        go_ret
        exact ⟨rfl, rfl⟩

theorem relOf_y (x : Bool) : (relOf x true = 1 ∨ relOf x true = 2) := by cases x <;> simp [relOf]
set_option maxHeartbeats 400000 in
theorem isOrWithin_any (p n : Key) (r : Bool) (hp : p.length ≤ 32) (hn : n.length ≤ 32) (hr : decide (n <+: p) = r) (w : World) (hw : RelsAt w) :
    Calls Tryd.prog 76 #[.agg #[.int .u32 (ka p), .int .i64 p.length], .agg #[.int .u32 (ka n), .int .i64 n.length]] w fun e w' => e = .returned (.bool r) ∧ Below w.heap.size w w' := by
  have hb0 : Below w.heap.size w ((w.alloc (.cells #[.int .u32 (ka p), .int .i64 p.length] 26)).alloc (.cells #[.int .u32 (ka n), .int .i64 n.length] 26)) := ((Below.refl _ w).alloc (Nat.le_refl _) _).alloc (by simp) _
  have hS := Lib.hid (Stands_t (ka p) p.length (ka n) n.length _ (hw.below hb0) (ka_right hp) (ka_right hn))
  have HB := Lib.hid hb0
  have hy : holdsB (ka n) n.length (ka p) p.length = r := by rw [ka_holds hn, hr]
  generalize holdsB (ka n) n.length (ka p) p.length = y at *
  generalize holdsB (ka p) p.length (ka n) n.length = x at *
  subst hy
  clear hb0 hw hr
  cases x <;> cases y
  all_goals
    go_enter Tryd.func76, Tryd.ntmps76
    go_wp2_with (go_at_call 84; with_reducible refine hS.out.mono ?_; rintro e w1 ⟨rfl, hb⟩; simp only [relOf, if_true, if_false, Bool.false_eq_true])
    have HB1 := Lib.hid hb
    clear hb
    go_ret
    exact ⟨rfl, bthen HB.out HB1.out⟩

theorem down_any (q : Nat) (p : Key) (w : World) : Calls Tryd.prog 57 #[.pointer (some ⟨q, 0, none⟩), .agg #[.int .u32 (ka p), .int .i64 p.length]] w fun e w' =>
    e = .returned (.func (.func 75) #[] #[.pointer (some ⟨w.heap.size, 0, none⟩), .pointer (some ⟨w.heap.size + 1, 0, none⟩)]) ∧ w' = (w.alloc (.cells #[.pointer (some ⟨q, 0, none⟩)] 28)).alloc (.cells #[.int .u32 (ka p), .int .i64 p.length] 26) := by
  go_enter Tryd.func57, Tryd.ntmps57
  go_wp2
  go_ret
  exact ⟨rfl, rfl⟩

theorem told_any (v : Value) (b : Option Addr) (n c : Nat) (hv : v = .slice b n c) (w : World) : Calls Tryd.prog 37 #[v] w fun e w' => e = .returned (.func (.func 60) #[] #[.pointer (some ⟨w.heap.size, 0, none⟩)]) ∧ w' = w.alloc (.cells #[.slice b n c] 71) := by
  subst hv
  go_enter Tryd.func37, Tryd.ntmps37
  go_wp2
  go_ret
  exact ⟨rfl, rfl⟩
end Go.Proofs.YtbacahoihkpkpaaDoor
