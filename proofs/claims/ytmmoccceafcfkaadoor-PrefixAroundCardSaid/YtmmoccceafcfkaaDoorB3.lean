/- Contracts of package addr: reader.take, reader.end. -/
import Derived.Test.YtmmoccceafcfkaaDoorB1
import Derived.Lib.OthersKept
namespace Go.Proofs.YtmmoccceafcfkaaDoor
open Go.RowKit

/-- nothing that was there has changed but block R -/
structure Only (R : Nat) (w w' : World) : Prop where
  os : w'.os = w.os
  tape : w'.tape = w.tape
  output : w'.output = w.output
  size : w.heap.size ≤ w'.heap.size
  block : ∀ k, k < w.heap.size → k ≠ R → w'.heap[k]? = w.heap[k]?
theorem Only.refl (R : Nat) (w : World) : Only R w w := ⟨rfl, rfl, rfl, Nat.le_refl _, fun _ _ _ => rfl⟩
theorem Only.trans {R : Nat} {a b c : World} (h : Only R a b) (k : Only R b c) : Only R a c :=
  ⟨k.os.trans h.os, k.tape.trans h.tape, k.output.trans h.output, Nat.le_trans h.size k.size, fun i hi hr => (k.block i (Nat.lt_of_lt_of_le hi h.size) hr).trans (h.block i hi hr)⟩
theorem Only.of_below {R : Nat} {w w' : World} (h : Below w.heap.size w w') : Only R w w' := ⟨h.os, h.tape, h.output, h.size, fun k hk _ => h.block k hk⟩
theorem Only.setCell {R : Nat} {a w : World} (h : Only R a w) (o : Nat) (v : Value) : Only R a (w.setCell ⟨R, o, none⟩ v) :=
  h.trans ⟨rfl, rfl, rfl, by simp [World.setCell], fun k _ hr => Below.heap_setCell w ⟨R, o, none⟩ v k hr⟩
theorem Only.drew {R : Nat} {a w : World} (h : Only R a w) : Only R a w.drew := ⟨h.os, h.tape, h.output, h.size, h.block⟩
theorem Only.drewN {R : Nat} {a w : World} (h : Only R a w) (n : Nat) : Only R a (w.drewN n) := ⟨h.os, h.tape, h.output, h.size, h.block⟩
theorem Only.alloc {R : Nat} {a w : World} (h : Only R a w) (o : Obj) : Only R a (w.alloc o) :=
  h.trans (Only.of_below ((Below.refl _ _).alloc (Nat.le_refl _) _))

/-- two cells of block R have changed, nothing else that was there -/
structure Upd (R k : Nat) (x y : Value) (w w' : World) : Prop where
  only : Only R w w'
  ck : w'.cell? ⟨R, k, none⟩ = some x
  c5 : w'.cell? ⟨R, 5, none⟩ = some y
  other : ∀ o, o ≠ k → o ≠ 5 → w'.cell? ⟨R, o, none⟩ = w.cell? ⟨R, o, none⟩
  fr : ∀ o, w'.frozen? ⟨R, o, none⟩ = w.frozen? ⟨R, o, none⟩
theorem Upd.of {R k : Nat} {x y u t : Value} {w v : World} (hB : Below w.heap.size w v) (hR : R < w.heap.size) (hk : k ≠ 5) (ck : v.cell? ⟨R, k, none⟩ = some u) (c5 : v.cell? ⟨R, 5, none⟩ = some t) :
    Upd R k x y w ((v.setCell ⟨R, k, none⟩ x).setCell ⟨R, 5, none⟩ y) := by
  have n1 : (⟨R, 5, none⟩ : Addr) ≠ ⟨R, k, none⟩ := fun e => hk (by simpa using (congrArg Addr.off e).symm)
  refine ⟨((Only.of_below hB).setCell _ _).setCell _ _, ?_, ?_, ?_, ?_⟩
  · rw [World.cell?_setCell_other _ _ _ _ n1, World.cell?_setCell_same' _ _ _ (by rw [ck]; rfl)]
  · rw [World.cell?_setCell_same' _ _ _ (by rw [World.cell?_setCell_other _ _ _ _ n1.symm, c5]; rfl)]
  · intro o h1 h2
    rw [World.cell?_setCell_other _ _ _ _ (fun e => h2 (by simpa using (congrArg Addr.off e).symm)), World.cell?_setCell_other _ _ _ _ (fun e => h1 (by simpa using (congrArg Addr.off e).symm))]
    exact hB.cell hR
  · intro o
    rw [World.frozen?_setCell, World.frozen?_setCell]
    exact hB.frozen hR
theorem Upd.drew {R k : Nat} {x y : Value} {w v : World} (h : Upd R k x y w v) : Upd R k x y w v.drew := ⟨h.only.drew, h.ck, h.c5, h.other, h.fr⟩
theorem Upd.alloc {R k : Nat} {x y : Value} {w v : World} (h : Upd R k x y w v) (hR : R < v.heap.size) (o : Obj) : Upd R k x y w (v.alloc o) :=
  ⟨h.only.alloc o, (World.cell?_alloc_lt _ _ _ hR).trans h.ck, (World.cell?_alloc_lt _ _ _ hR).trans h.c5, fun i h1 h2 => (World.cell?_alloc_lt _ _ _ hR).trans (h.other i h1 h2), fun i => (((Below.refl _ _).alloc (Nat.le_refl _) o).frozen (p := ⟨R, i, none⟩) hR).trans (h.fr i)⟩

set_option maxRecDepth 100000 in
set_option maxHeartbeats 1000000 in
theorem take_dot (R k : Nat) (at' : Int) (d : Int) (w : World) (hd : 0 < d) (hk : k < 3)
    (c4 : w.cell? ⟨R, 4, none⟩ = some (.int .i64 k)) (c5 : w.cell? ⟨R, 5, none⟩ = some (.int .i64 d)) (f4 : w.frozen? ⟨R, 4, none⟩ = false) (f5 : w.frozen? ⟨R, 5, none⟩ = false) :
    Calls Tryd.prog 67 #[.pointer (some ⟨R, 0, none⟩), .int .i64 at', .int .i32 46] w fun e w' => e = .returned (.tuple #[]) ∧ Upd R 4 (.int .i64 (k + 1)) (.int .i64 0) w w' := by
  have t1 : decide (0 < d) = true := by simpa using hd
  have t2 : decide ((k : Int) < 3) = true := by simp; omega
  go_enter Tryd.func67, Tryd.ntmps67
  go_wp2
  go_end0
  exact ⟨rfl, Upd.of (Below.refl _ _) (World.block_lt_of_cell? w _ c4) (by omega) c4 c5⟩

set_option maxRecDepth 100000 in
set_option maxHeartbeats 1000000 in
theorem take_bad1 (R k : Nat) (at' d : Int) (w : World) (hd : d ≤ 0)
    (_c4 : w.cell? ⟨R, 4, none⟩ = some (.int .i64 k)) (c5 : w.cell? ⟨R, 5, none⟩ = some (.int .i64 d)) :
    Calls Tryd.prog 67 #[.pointer (some ⟨R, 0, none⟩), .int .i64 at', .int .i32 46] w fun e w' => e = .panicked [{ v := .iface 107 (.int .i64 at'), recovered := false }] ∧ Only R w w' := by
  have t1 : decide (0 < d) = false := by simp; omega
  go_enter Tryd.func67, Tryd.ntmps67
  go_wp2
  go_quiet (fail)
  go_wp2
  exact ⟨rfl, rfl, (Only.refl _ _).drewN _⟩

set_option maxRecDepth 100000 in
set_option maxHeartbeats 1000000 in
theorem take_bad2 (R k : Nat) (at' d : Int) (w : World) (hd : 0 < d) (hk : k = 3)
    (c4 : w.cell? ⟨R, 4, none⟩ = some (.int .i64 k)) (c5 : w.cell? ⟨R, 5, none⟩ = some (.int .i64 d)) :
    Calls Tryd.prog 67 #[.pointer (some ⟨R, 0, none⟩), .int .i64 at', .int .i32 46] w fun e w' => e = .panicked [{ v := .iface 107 (.int .i64 at'), recovered := false }] ∧ Only R w w' := by
  subst hk
  have t1 : decide (0 < d) = true := by simpa using hd
  go_enter Tryd.func67, Tryd.ntmps67
  go_wp2
  go_quiet (fail)
  go_wp2
  exact ⟨rfl, rfl, (Only.refl _ _).drewN _⟩

set_option maxRecDepth 100000 in
set_option maxHeartbeats 1000000 in
theorem take_bad3 (R k : Nat) (at' d c : Int) (w : World) (hc : c < 48) (hc2 : c ≠ 46)
    (_c4 : w.cell? ⟨R, 4, none⟩ = some (.int .i64 k)) (_c5 : w.cell? ⟨R, 5, none⟩ = some (.int .i64 d)) :
    Calls Tryd.prog 67 #[.pointer (some ⟨R, 0, none⟩), .int .i64 at', .int .i32 c] w fun e w' => e = .panicked [{ v := .iface 107 (.int .i64 at'), recovered := false }] ∧ Only R w w' := by
  have t1 : (c == 46) = false := by simpa using hc2
  have t2 : decide (48 ≤ c) = false := by simp; omega
  clear hc2
  go_enter Tryd.func67, Tryd.ntmps67
  go_wp2
  go_quiet (fail)
  go_wp2
  exact ⟨rfl, rfl, (Only.refl _ _).drewN _⟩

set_option maxRecDepth 100000 in
set_option maxHeartbeats 1000000 in
theorem take_bad4 (R k : Nat) (at' d c : Int) (w : World) (hc : 57 < c)
    (_c4 : w.cell? ⟨R, 4, none⟩ = some (.int .i64 k)) (_c5 : w.cell? ⟨R, 5, none⟩ = some (.int .i64 d)) :
    Calls Tryd.prog 67 #[.pointer (some ⟨R, 0, none⟩), .int .i64 at', .int .i32 c] w fun e w' => e = .panicked [{ v := .iface 107 (.int .i64 at'), recovered := false }] ∧ Only R w w' := by
  have t1 : (c == 46) = false := by simp; omega
  have t2 : decide (48 ≤ c) = true := by simp; omega
  have t3 : decide (c ≤ 57) = false := by simp; omega
  go_enter Tryd.func67, Tryd.ntmps67
  go_wp2
  go_quiet (fail)
  go_wp2
  exact ⟨rfl, rfl, (Only.refl _ _).drewN _⟩

set_option maxRecDepth 100000 in
set_option maxHeartbeats 1000000 in
theorem take_bad5 (R k : Nat) (at' d c : Int) (w : World) (hc : 48 ≤ c) (hc2 : c ≤ 57) (hd : d ≠ 0) (hk : k < 4) (ck : w.cell? ⟨R, k, none⟩ = some (.int .u8 0))
    (c4 : w.cell? ⟨R, 4, none⟩ = some (.int .i64 k)) (c5 : w.cell? ⟨R, 5, none⟩ = some (.int .i64 d)) :
    Calls Tryd.prog 67 #[.pointer (some ⟨R, 0, none⟩), .int .i64 at', .int .i32 c] w fun e w' => e = .panicked [{ v := .iface 107 (.int .i64 at'), recovered := false }] ∧ Only R w w' := by
  have t1 : (c == 46) = false := by simp; omega
  have t2 : decide (48 ≤ c) = true := by simp; omega
  have t3 : decide (c ≤ 57) = true := by simp; omega
  have t4 : (d == 0) = false := by simpa using hd
  clear hd
  go_enter Tryd.func67, Tryd.ntmps67
  go_wp2
  go_quiet (fail)
  go_wp2
  exact ⟨rfl, rfl, (Only.refl _ _).drewN _⟩

set_option maxRecDepth 100000 in
set_option maxHeartbeats 1000000 in
theorem take_digit0 (R k : Nat) (at' d c cur : Int) (w : World) (hc : 48 ≤ c) (hc2 : c ≤ 57) (hd0 : 0 ≤ d) (hd1 : d ≤ 1000000000000000) (hk : k < 4) (u0 : 0 ≤ cur) (u1 : cur ≤ 255) (hz : d = 0) (hn : cur * 10 + (c - 48) ≤ 255)
    (ck : w.cell? ⟨R, k, none⟩ = some (.int .u8 cur)) (c4 : w.cell? ⟨R, 4, none⟩ = some (.int .i64 k)) (c5 : w.cell? ⟨R, 5, none⟩ = some (.int .i64 d)) (fk : w.frozen? ⟨R, k, none⟩ = false) (f5 : w.frozen? ⟨R, 5, none⟩ = false) :
    Calls Tryd.prog 67 #[.pointer (some ⟨R, 0, none⟩), .int .i64 at', .int .i32 c] w fun e w' => e = .returned (.tuple #[]) ∧ Upd R k (.int .u8 (cur * 10 + (c - 48))) (.int .i64 (d + 1)) w w' := by
  have t1 : (c == 46) = false := by simp; omega
  have t2 : decide (48 ≤ c) = true := by simp; omega
  have t3 : decide (c ≤ 57) = true := by simp; omega
  have hb := World.block_lt_of_cell? w _ c4
  have t4 : (d == 0) = true := by simpa using hz
  clear hz
  go_enter Tryd.func67, Tryd.ntmps67
  go_wp2
  go_quiet (fail)
  go_wp2
  have ck' : (w.drewN nq).cell? ⟨R, k, none⟩ = some (.int .u8 cur) := ck
  have c4' : (w.drewN nq).cell? ⟨R, 4, none⟩ = some (.int .i64 k) := c4
  have c5' : (w.drewN nq).cell? ⟨R, 5, none⟩ = some (.int .i64 d) := c5
  have fk' : (w.drewN nq).frozen? ⟨R, k, none⟩ = false := fk
  have f5' : (w.drewN nq).frozen? ⟨R, 5, none⟩ = false := f5
  have hB : Below w.heap.size w (w.drewN nq) := below_drewN (Below.refl _ _) _
  have hb' : R < (w.drewN nq).heap.size := hb
  generalize w.drewN nq = v at *
  clear ck c4 c5 fk f5
  have hk0 : (0 : Int) ≤ (k : Int) := by omega
  have hk1 : (k : Int) < 4 := by omega
  have hn0 : decide (255 < cur * 10 + (c - 48)) = false := by simp; omega
  have e1 : IntKind.i64.wrap cur = cur := IntWalk.i64_in _ ⟨by omega, by omega⟩
  have e2 : IntKind.i32.wrap (c - 48) = c - 48 := IntWalk.i32_in _ ⟨by omega, by omega⟩
  have e3 : IntKind.i64.wrap (c - 48) = c - 48 := IntWalk.i64_in _ ⟨by omega, by omega⟩
  go_region_held3 (fun w' => w'.cell? ⟨R, k, none⟩ = some (.int .u8 cur) ∧ w'.cell? ⟨R, 4, none⟩ = some (.int .i64 k))
    (first | go_keep | exact ⟨ck', c4'⟩)
    (first | (go_at_call 89; refine (joinedI _ cur (c - 48) _ u0 u1 (by omega) (by omega) (by simp [go_sem]) (by simp [go_sem])).mono ?_; rintro e w' ⟨rfl, rfl⟩))
  clear e1 e2 e3
  go_wp2
  go_region
  go_wp2
  go_end0
  exact ⟨rfl, (((Upd.of hB hb (by omega) ck' c5').alloc (by simpa using hb') _).drew).drew⟩

set_option maxRecDepth 100000 in
set_option maxHeartbeats 1000000 in
theorem take_digit1 (R k : Nat) (at' d c cur : Int) (w : World) (hc : 48 ≤ c) (hc2 : c ≤ 57) (hd0 : 0 ≤ d) (hd1 : d ≤ 1000000000000000) (hk : k < 4) (u0 : 0 ≤ cur) (u1 : cur ≤ 255) (hz : d ≠ 0) (hz2 : cur ≠ 0) (hn : cur * 10 + (c - 48) ≤ 255)
    (ck : w.cell? ⟨R, k, none⟩ = some (.int .u8 cur)) (c4 : w.cell? ⟨R, 4, none⟩ = some (.int .i64 k)) (c5 : w.cell? ⟨R, 5, none⟩ = some (.int .i64 d)) (fk : w.frozen? ⟨R, k, none⟩ = false) (f5 : w.frozen? ⟨R, 5, none⟩ = false) :
    Calls Tryd.prog 67 #[.pointer (some ⟨R, 0, none⟩), .int .i64 at', .int .i32 c] w fun e w' => e = .returned (.tuple #[]) ∧ Upd R k (.int .u8 (cur * 10 + (c - 48))) (.int .i64 (d + 1)) w w' := by
  have t1 : (c == 46) = false := by simp; omega
  have t2 : decide (48 ≤ c) = true := by simp; omega
  have t3 : decide (c ≤ 57) = true := by simp; omega
  have hb := World.block_lt_of_cell? w _ c4
  have t4 : (d == 0) = false := by simpa using hz
  have t5 : (cur != 0) = true := by simpa using hz2
  clear hz hz2
  go_enter Tryd.func67, Tryd.ntmps67
  go_wp2
  go_quiet (fail)
  go_wp2
  have ck' : (w.drewN nq).cell? ⟨R, k, none⟩ = some (.int .u8 cur) := ck
  have c4' : (w.drewN nq).cell? ⟨R, 4, none⟩ = some (.int .i64 k) := c4
  have c5' : (w.drewN nq).cell? ⟨R, 5, none⟩ = some (.int .i64 d) := c5
  have fk' : (w.drewN nq).frozen? ⟨R, k, none⟩ = false := fk
  have f5' : (w.drewN nq).frozen? ⟨R, 5, none⟩ = false := f5
  have hB : Below w.heap.size w (w.drewN nq) := below_drewN (Below.refl _ _) _
  have hb' : R < (w.drewN nq).heap.size := hb
  generalize w.drewN nq = v at *
  clear ck c4 c5 fk f5
  have hk0 : (0 : Int) ≤ (k : Int) := by omega
  have hk1 : (k : Int) < 4 := by omega
  have hn0 : decide (255 < cur * 10 + (c - 48)) = false := by simp; omega
  have e1 : IntKind.i64.wrap cur = cur := IntWalk.i64_in _ ⟨by omega, by omega⟩
  have e2 : IntKind.i32.wrap (c - 48) = c - 48 := IntWalk.i32_in _ ⟨by omega, by omega⟩
  have e3 : IntKind.i64.wrap (c - 48) = c - 48 := IntWalk.i64_in _ ⟨by omega, by omega⟩
  go_region_held3 (fun w' => w'.cell? ⟨R, k, none⟩ = some (.int .u8 cur) ∧ w'.cell? ⟨R, 4, none⟩ = some (.int .i64 k))
    (first | go_keep | exact ⟨ck', c4'⟩)
    (first | (go_at_call 89; refine (joinedI _ cur (c - 48) _ u0 u1 (by omega) (by omega) (by simp [go_sem]) (by simp [go_sem])).mono ?_; rintro e w' ⟨rfl, rfl⟩))
  clear e1 e2 e3
  go_wp2
  go_region
  go_wp2
  go_end0
  exact ⟨rfl, (((Upd.of hB hb (by omega) ck' c5').alloc (by simpa using hb') _).drew).drew⟩

set_option maxRecDepth 100000 in
set_option maxHeartbeats 1000000 in
theorem take_over0 (R k : Nat) (at' d c cur : Int) (w : World) (hc : 48 ≤ c) (hc2 : c ≤ 57) (_hd0 : 0 ≤ d) (_hd1 : d ≤ 1000000000000000) (hk : k < 4) (u0 : 0 ≤ cur) (u1 : cur ≤ 255) (hz : d = 0) (hn : 255 < cur * 10 + (c - 48))
    (ck : w.cell? ⟨R, k, none⟩ = some (.int .u8 cur)) (c4 : w.cell? ⟨R, 4, none⟩ = some (.int .i64 k)) (c5 : w.cell? ⟨R, 5, none⟩ = some (.int .i64 d)) (fk : w.frozen? ⟨R, k, none⟩ = false) (f5 : w.frozen? ⟨R, 5, none⟩ = false) :
    Calls Tryd.prog 67 #[.pointer (some ⟨R, 0, none⟩), .int .i64 at', .int .i32 c] w fun e w' => e = .panicked [{ v := .iface 107 (.int .i64 at'), recovered := false }] ∧ Only R w w' := by
  have t1 : (c == 46) = false := by simp; omega
  have t2 : decide (48 ≤ c) = true := by simp; omega
  have t3 : decide (c ≤ 57) = true := by simp; omega
  have hb := World.block_lt_of_cell? w _ c4
  have t4 : (d == 0) = true := by simpa using hz
  clear hz
  go_enter Tryd.func67, Tryd.ntmps67
  go_wp2
  go_quiet (fail)
  go_wp2
  have ck' : (w.drewN nq).cell? ⟨R, k, none⟩ = some (.int .u8 cur) := ck
  have c4' : (w.drewN nq).cell? ⟨R, 4, none⟩ = some (.int .i64 k) := c4
  have c5' : (w.drewN nq).cell? ⟨R, 5, none⟩ = some (.int .i64 d) := c5
  have fk' : (w.drewN nq).frozen? ⟨R, k, none⟩ = false := fk
  have f5' : (w.drewN nq).frozen? ⟨R, 5, none⟩ = false := f5
  have hB : Below w.heap.size w (w.drewN nq) := below_drewN (Below.refl _ _) _
  have hb' : R < (w.drewN nq).heap.size := hb
  generalize w.drewN nq = v at *
  clear ck c4 c5 fk f5
  have hk0 : (0 : Int) ≤ (k : Int) := by omega
  have hk1 : (k : Int) < 4 := by omega
  have hn0 : decide (255 < cur * 10 + (c - 48)) = true := by simp; omega
  have e1 : IntKind.i64.wrap cur = cur := IntWalk.i64_in _ ⟨by omega, by omega⟩
  have e2 : IntKind.i32.wrap (c - 48) = c - 48 := IntWalk.i32_in _ ⟨by omega, by omega⟩
  have e3 : IntKind.i64.wrap (c - 48) = c - 48 := IntWalk.i64_in _ ⟨by omega, by omega⟩
  go_region_held3 (fun w' => w'.cell? ⟨R, k, none⟩ = some (.int .u8 cur) ∧ w'.cell? ⟨R, 4, none⟩ = some (.int .i64 k))
    (first | go_keep | exact ⟨ck', c4'⟩)
    (first | (go_at_call 89; refine (joinedI _ cur (c - 48) _ u0 u1 (by omega) (by omega) (by simp [go_sem]) (by simp [go_sem])).mono ?_; rintro e w' ⟨rfl, rfl⟩))
  clear e1 e2 e3
  go_wp2
  exact ⟨rfl, rfl, ((Only.of_below hB).alloc _).drew⟩

set_option maxRecDepth 100000 in
set_option maxHeartbeats 1000000 in
theorem take_over1 (R k : Nat) (at' d c cur : Int) (w : World) (hc : 48 ≤ c) (hc2 : c ≤ 57) (_hd0 : 0 ≤ d) (_hd1 : d ≤ 1000000000000000) (hk : k < 4) (u0 : 0 ≤ cur) (u1 : cur ≤ 255) (hz : d ≠ 0) (hz2 : cur ≠ 0) (hn : 255 < cur * 10 + (c - 48))
    (ck : w.cell? ⟨R, k, none⟩ = some (.int .u8 cur)) (c4 : w.cell? ⟨R, 4, none⟩ = some (.int .i64 k)) (c5 : w.cell? ⟨R, 5, none⟩ = some (.int .i64 d)) (fk : w.frozen? ⟨R, k, none⟩ = false) (f5 : w.frozen? ⟨R, 5, none⟩ = false) :
    Calls Tryd.prog 67 #[.pointer (some ⟨R, 0, none⟩), .int .i64 at', .int .i32 c] w fun e w' => e = .panicked [{ v := .iface 107 (.int .i64 at'), recovered := false }] ∧ Only R w w' := by
  have t1 : (c == 46) = false := by simp; omega
  have t2 : decide (48 ≤ c) = true := by simp; omega
  have t3 : decide (c ≤ 57) = true := by simp; omega
  have hb := World.block_lt_of_cell? w _ c4
  have t4 : (d == 0) = false := by simpa using hz
  have t5 : (cur != 0) = true := by simpa using hz2
  clear hz hz2
  go_enter Tryd.func67, Tryd.ntmps67
  go_wp2
  go_quiet (fail)
  go_wp2
  have ck' : (w.drewN nq).cell? ⟨R, k, none⟩ = some (.int .u8 cur) := ck
  have c4' : (w.drewN nq).cell? ⟨R, 4, none⟩ = some (.int .i64 k) := c4
  have c5' : (w.drewN nq).cell? ⟨R, 5, none⟩ = some (.int .i64 d) := c5
  have fk' : (w.drewN nq).frozen? ⟨R, k, none⟩ = false := fk
  have f5' : (w.drewN nq).frozen? ⟨R, 5, none⟩ = false := f5
  have hB : Below w.heap.size w (w.drewN nq) := below_drewN (Below.refl _ _) _
  have hb' : R < (w.drewN nq).heap.size := hb
  generalize w.drewN nq = v at *
  clear ck c4 c5 fk f5
  have hk0 : (0 : Int) ≤ (k : Int) := by omega
  have hk1 : (k : Int) < 4 := by omega
  have hn0 : decide (255 < cur * 10 + (c - 48)) = true := by simp; omega
  have e1 : IntKind.i64.wrap cur = cur := IntWalk.i64_in _ ⟨by omega, by omega⟩
  have e2 : IntKind.i32.wrap (c - 48) = c - 48 := IntWalk.i32_in _ ⟨by omega, by omega⟩
  have e3 : IntKind.i64.wrap (c - 48) = c - 48 := IntWalk.i64_in _ ⟨by omega, by omega⟩
  go_region_held3 (fun w' => w'.cell? ⟨R, k, none⟩ = some (.int .u8 cur) ∧ w'.cell? ⟨R, 4, none⟩ = some (.int .i64 k))
    (first | go_keep | exact ⟨ck', c4'⟩)
    (first | (go_at_call 89; refine (joinedI _ cur (c - 48) _ u0 u1 (by omega) (by omega) (by simp [go_sem]) (by simp [go_sem])).mono ?_; rintro e w' ⟨rfl, rfl⟩))
  clear e1 e2 e3
  go_wp2
  exact ⟨rfl, rfl, ((Only.of_below hB).alloc _).drew⟩
end Go.Proofs.YtmmoccceafcfkaaDoor
