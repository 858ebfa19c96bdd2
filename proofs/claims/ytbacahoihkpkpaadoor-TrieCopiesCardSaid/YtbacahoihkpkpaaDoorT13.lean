/- slices.Backward over a list of places. -/
import Derived.Test.YtbacahoihkpkpaaDoorT12
import Derived.Test.YtbacahoihkpkpaaDoorT11
import Derived.Test.YtbacahoihkpkpaaDoorT9
namespace Go.Proofs.YtbacahoihkpkpaaDoor
open Go.RowKit Go.Shelf

attribute [local go_sem] Oper.semAt_some

/-- the box of the slice, and its places -/
def RdV (Bv : Nat) (base : Option Addr) (g N cap : Nat) (pl : Nat → Addr) (W : World) : Prop :=
  W.heap[Bv]? = some (.cells #[.slice base N cap] 111 (0, 0)) ∧ ∀ i, i < N → base = some ⟨g, 0, none⟩ ∧ W.cell? ⟨g, i, none⟩ = some (.pointer (some (pl i)))
def encB (N : Nat) (pl : Nat → Addr) (k : Nat) : Array Value := #[.int .i64 ((N : Int) - 1 - k), .pointer (some (pl (N - 1 - k)))]

set_option maxRecDepth 100000 in
set_option maxHeartbeats 2000000 in
theorem Backward1_count (n Bv : Nat) (base : Option Addr) (g N cap : Nat) (pl : Nat → Addr) (hN : N ≤ 1000) (w : World) :
    SeqCount Fence.wide n Tryd.prog 81 #[.pointer (some ⟨Bv, 0, none⟩)] (encB N pl) (RdV Bv base g N cap pl) N w := by
  intro l J W _ hR hY h0
  refine callsIn_of_wp Tryd.func81 rfl trivial ?_ rfl
  simp only [Tryd.ntmps81, List.size_toArray, List.length_cons, List.length_nil, Nat.reduceAdd, Nat.reduceSub, Array.replicate_succ, Array.replicate_zero, List.push_toArray, List.append_toArray, List.nil_append, List.cons_append]
  have HRd := Lib.hid hR
  have HY := Lib.hid hY
  obtain ⟨hb0, _⟩ := hR 0 W h0
  have e0 : W.cell? ⟨Bv, 0, none⟩ = some (.slice base N cap) := cell_heap hb0
  clear hR hY hb0
  gi_wp2_with fail
  gi_loopw [3] (fun i wr => ∃ k : Nat, k ≤ N ∧ i = .int .i64 ((N : Int) - 1 - k) ∧ J k wr) (fun i _ => (intOf i + 1).toNat)
  case atStart => exact ⟨0, by omega, by simp, h0⟩
  case round =>
    obtain ⟨k, hk, rfl, hJ⟩ := hrel
    clear h0 e0
    by_cases hlt : k < N
    · have t1 : decide ((0 : Int) ≤ (N : Int) - 1 - k) = true := by simp; omega
      obtain ⟨hb1, hc1⟩ := HRd.out k wr hJ
      have e1 : wr.cell? ⟨Bv, 0, none⟩ = some (.slice base N cap) := cell_heap hb1
      obtain ⟨rfl, c1⟩ := hc1 (N - 1 - k) (by omega)
      obtain ⟨fn, tmps, assign, body, hy, hRd⟩ := HY.out k wr hlt hJ
      simp only [encB] at hy
      have HJ := Lib.hid hJ
      clear hJ hb1 hc1
      obtain ⟨m, hm⟩ : ∃ m : Nat, N - 1 - k = m := ⟨_, rfl⟩
      have hmi : ((N : Int) - 1 - k) = (m : Int) := by omega
      rw [hm] at c1 hy
      rw [hmi] at hy t1 ⊢
      have i0 : (0 : Int) ≤ (m : Int) := by omega
      have i1 : (m : Int) < (N : Int) := by omega
      have i2 : m < N := by omega
      have HM := Lib.hid hmi
      clear hmi hm
      gi_wp2_with fail
      refine ⟨wide_d, hRd.mono ?_⟩
      rintro e W3 ⟨rfl, hJ3⟩
      have HJ3 := Lib.hid hJ3
      clear hJ3 hRd hy
      gi_wp2_with fail
      go_roundw
      case rel => exact ⟨k + 1, by omega, by have := HM.out; (congr 1; omega), HJ3.out⟩
      case measure => simp [intOf]
    · have hkN : k = N := by omega
      subst hkN
      have t1 : decide ((0 : Int) ≤ (k : Int) - 1 - k) = false := by simp; omega
      have hm1 : (k : Int) - 1 - k = -1 := by omega
      rw [hm1]
      clear hm1 t1
      gi_wp2_with fail
      go_end0
      exact ⟨⟨_, rfl⟩, hJ⟩

theorem Backward_any (v : Value) (base : Option Addr) (n c : Nat) (hv : v = .slice base n c) (w : World) : Calls Tryd.prog 64 #[v] w fun e w' => e = .returned (.func (.func 81) #[] #[.pointer (some ⟨w.heap.size, 0, none⟩)]) ∧ w' = w.alloc (.cells #[.slice base n c] 111) := by
  subst hv
  go_enter Tryd.func64, Tryd.ntmps64
  go_wp2
  go_ret
  exact ⟨rfl, rfl⟩
end Go.Proofs.YtbacahoihkpkpaaDoor
