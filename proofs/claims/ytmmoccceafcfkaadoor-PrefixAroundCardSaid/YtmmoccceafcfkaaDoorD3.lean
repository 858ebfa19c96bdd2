/- Contracts: (*partial).take of package prefix. -/
import Derived.Test.YtmmoccceafcfkaaDoorB5
import Derived.Test.YtmmoccceafcfkaaDoorD2
import Derived.BigRegion
namespace Go.Proofs.YtmmoccceafcfkaaDoor
open Go.RowKit

/-- the block of a partial -/
def TBox (W : World) (R : Nat) (a len : Int) (sl : Bool) (dg : Int) : Prop := W.heap[R]? = some (.cells #[.int .u32 a, .int .i64 len, .bool sl, .int .i64 dg] 125 (0, 0))
section
variable {W : World} {R : Nat} {a len dg : Int} {sl : Bool} (h : TBox W R a len sl dg)
include h
theorem TBox.lt : R < W.heap.size := (Array.getElem?_eq_some_iff.1 h).1
theorem TBox.c0 : W.cell? ⟨R, 0, none⟩ = some (.int .u32 a) := by simp [World.cell?, show W.heap[R]? = _ from h]
theorem TBox.c1 : W.cell? ⟨R, 1, none⟩ = some (.int .i64 len) := by simp [World.cell?, show W.heap[R]? = _ from h]
theorem TBox.c2 : W.cell? ⟨R, 2, none⟩ = some (.bool sl) := by simp [World.cell?, show W.heap[R]? = _ from h]
theorem TBox.c3 : W.cell? ⟨R, 3, none⟩ = some (.int .i64 dg) := by simp [World.cell?, show W.heap[R]? = _ from h]
theorem TBox.f (o : Nat) : W.frozen? ⟨R, o, none⟩ = false := by simp [World.frozen?, show W.heap[R]? = _ from h]
theorem TBox.below {W' : World} (hb : Below W.heap.size W W') : TBox W' R a len sl dg := (hb.block R (TBox.lt h)).trans h
end

set_option maxRecDepth 100000 in
set_option maxHeartbeats 1000000 in
theorem ptake_pass (R : Nat) (s : ByteArray) (at' c : Int) (w : World) (h : TBox w R 0 0 false 0) (hc : c ≠ 47) :
    Calls Tryd.prog 74 #[.pointer (some ⟨R, 0, none⟩), .string s, .int .i64 at', .int .i32 c] w fun e w' => e = .returned (.bool true) ∧ w = w' := by
  have t1 : (c != 47) = true := by simpa using hc
  have c2 := h.c2
  go_enter Tryd.func74, Tryd.ntmps74
  go_wp2
  go_ret
  exact ⟨rfl, rfl⟩

set_option maxRecDepth 100000 in
set_option maxHeartbeats 1000000 in
theorem ptake_slash (R : Nat) (s : ByteArray) (at' : Nat) (w : World) (h : TBox w R 0 0 false 0) (ha : at' ≤ s.size) (hs : s.size ≤ 1000000000000000) :
    Calls Tryd.prog 74 #[.pointer (some ⟨R, 0, none⟩), .string s, .int .i64 at', .int .i32 47] w fun e w' =>
      e = .returned (.bool ((parseS (List.take at' s.data.toList)).2.2 == 0)) ∧ Only R w w' ∧ TBox w' R (parseS (List.take at' s.data.toList)).1 0 true 0 := by
  have c2 := h.c2
  go_enter Tryd.func74, Tryd.ntmps74
  go_wp2_with fail
  refine (Parse_any (s.extract 0 at') w (by simp; omega)).mono ?_
  rintro e w1 ⟨rfl, hb⟩
  have h1 := h.below hb
  have d0 := h1.c0
  have d2 := h1.c2
  have f0 := h1.f 0
  have f2 := h1.f 2
  go_wp2_with fail
  go_ret
  refine ⟨rfl, ((Only.of_below hb).setCell _ _).setCell _ _, ?_⟩
  exact heap_set1 _ (heap_set1 _ h1)

set_option maxRecDepth 100000 in
set_option maxHeartbeats 1000000 in
theorem ptake_no1 (R : Nat) (s : ByteArray) (at' c a len dg : Int) (w : World) (h : TBox w R a len true dg) (hc : c < 48 ∨ 57 < c) :
    Calls Tryd.prog 74 #[.pointer (some ⟨R, 0, none⟩), .string s, .int .i64 at', .int .i32 c] w fun e w' => e = .returned (.bool false) ∧ w = w' := by
  have c2 := h.c2
  by_cases h1 : c < 48
  · have t1 : decide (c < 48) = true := by simpa using h1
    go_enter Tryd.func74, Tryd.ntmps74
    go_wp2
    go_ret
    exact ⟨rfl, rfl⟩
  · have t1 : decide (c < 48) = false := by simpa using h1
    have t2 : decide (57 < c) = true := by simp; omega
    go_enter Tryd.func74, Tryd.ntmps74
    go_wp2
    go_ret
    exact ⟨rfl, rfl⟩

set_option maxRecDepth 100000 in
set_option maxHeartbeats 1000000 in
theorem ptake_no2 (R : Nat) (s : ByteArray) (at' c a dg : Int) (w : World) (h : TBox w R a 0 true dg) (h1 : 48 ≤ c) (h2 : c ≤ 57) (hd : 0 < dg) :
    Calls Tryd.prog 74 #[.pointer (some ⟨R, 0, none⟩), .string s, .int .i64 at', .int .i32 c] w fun e w' => e = .returned (.bool false) ∧ w = w' := by
  have c2 := h.c2
  have c1 := h.c1
  have c3 := h.c3
  have t1 : decide (c < 48) = false := by simp; omega
  have t2 : decide (57 < c) = false := by simp; omega
  have t3 : decide (0 < dg) = true := by simpa using hd
  go_enter Tryd.func74, Tryd.ntmps74
  go_wp2
  go_ret
  exact ⟨rfl, rfl⟩

set_option maxRecDepth 100000 in
set_option maxHeartbeats 2000000 in
theorem ptake_dig (R : Nat) (s : ByteArray) (at' c a len dg : Int) (w : World) (h : TBox w R a len true dg) (h1 : 48 ≤ c) (h2 : c ≤ 57) (l0 : 0 ≤ len) (l1 : len ≤ 32) (d0 : 0 ≤ dg) (d1 : dg ≤ 1000000000000000) (hd : dg = 0 ∨ len ≠ 0) :
    Calls Tryd.prog 74 #[.pointer (some ⟨R, 0, none⟩), .string s, .int .i64 at', .int .i32 c] w fun e w' =>
      e = .returned (.bool (decide (len * 10 + (c - 48) ≤ 32))) ∧ Only R w w' ∧ TBox w' R a (len * 10 + (c - 48)) true (dg + 1) := by
  have c2 := h.c2
  have c1 := h.c1
  have c3 := h.c3
  have t1 : decide (c < 48) = false := by simp; omega
  have t2 : decide (57 < c) = false := by simp; omega
  have f1 := h.f 1
  have f3 := h.f 3
  have e1 : IntKind.i64.wrap (len * 10) = len * 10 := IntWalk.i64_in _ ⟨by omega, by omega⟩
  have e2 : IntKind.i32.wrap (c - 48) = c - 48 := IntWalk.i32_in _ ⟨by omega, by omega⟩
  have e3 : IntKind.i64.wrap (c - 48) = c - 48 := IntWalk.i64_in _ ⟨by omega, by omega⟩
  have e4 : IntKind.i64.wrap (len * 10 + (c - 48)) = len * 10 + (c - 48) := IntWalk.i64_in _ ⟨by omega, by omega⟩
  have e5 : IntKind.i64.wrap (dg + 1) = dg + 1 := IntWalk.i64_in _ ⟨by omega, by omega⟩
  by_cases h3 : 0 < dg
  · have t3 : decide (0 < dg) = true := by simpa using h3
    have t4 : (len == 0) = false := by simp; omega
    go_enter Tryd.func74, Tryd.ntmps74
    go_wp2_with fail
    go_region
    go_wp2
    go_ret
    refine ⟨rfl, ?_, ?_⟩
    · exact ((((Only.refl R w).drew).setCell _ _).setCell _ _)
    · exact heap_set1 _ (heap_set1 _ h)
  · have t3 : decide (0 < dg) = false := by simpa using h3
    go_enter Tryd.func74, Tryd.ntmps74
    go_wp2_with fail
    go_region
    go_wp2
    go_ret
    refine ⟨rfl, ?_, ?_⟩
    · exact ((((Only.refl R w).drew).setCell _ _).setCell _ _)
    · exact heap_set1 _ (heap_set1 _ h)

end Go.Proofs.YtmmoccceafcfkaaDoor
