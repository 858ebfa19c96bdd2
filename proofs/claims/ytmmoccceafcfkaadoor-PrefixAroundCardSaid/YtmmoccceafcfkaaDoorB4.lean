/- Contracts of package addr: reader.end, the deferred closure of Parse. -/
import Derived.Test.YtmmoccceafcfkaaDoorB3
import Derived.Defers
import Derived.Recover
namespace Go.Proofs.YtmmoccceafcfkaaDoor
open Go.RowKit

set_option maxHeartbeats 400000 in
theorem end_ok (R : Nat) (n d : Int) (w : World) (hd : d ≠ 0)
    (c4 : w.cell? ⟨R, 4, none⟩ = some (.int .i64 3)) (c5 : w.cell? ⟨R, 5, none⟩ = some (.int .i64 d)) :
    Calls Tryd.prog 68 #[.pointer (some ⟨R, 0, none⟩), .int .i64 n] w fun e w' => e = .returned (.tuple #[]) ∧ w = w' := by
  have t1 : (d == 0) = false := by simpa using hd
  clear hd
  go_enter Tryd.func68, Tryd.ntmps68
  go_wp2
  go_end0
  exact ⟨rfl, rfl⟩

set_option maxHeartbeats 400000 in
theorem end_bad1 (R k : Nat) (n d : Int) (w : World) (hk : k < 3)
    (c4 : w.cell? ⟨R, 4, none⟩ = some (.int .i64 k)) (_c5 : w.cell? ⟨R, 5, none⟩ = some (.int .i64 d)) :
    Calls Tryd.prog 68 #[.pointer (some ⟨R, 0, none⟩), .int .i64 n] w fun e w' => e = .panicked [{ v := .iface 107 (.int .i64 n), recovered := false }] ∧ w = w' := by
  have t1 : decide ((k : Int) < 3) = true := by simp; omega
  go_enter Tryd.func68, Tryd.ntmps68
  go_wp2
  exact ⟨rfl, rfl, rfl⟩

set_option maxHeartbeats 400000 in
theorem end_bad2 (R k : Nat) (n : Int) (w : World) (hk : ¬ k < 3)
    (c4 : w.cell? ⟨R, 4, none⟩ = some (.int .i64 k)) (c5 : w.cell? ⟨R, 5, none⟩ = some (.int .i64 0)) :
    Calls Tryd.prog 68 #[.pointer (some ⟨R, 0, none⟩), .int .i64 n] w fun e w' => e = .panicked [{ v := .iface 107 (.int .i64 n), recovered := false }] ∧ w = w' := by
  have t1 : decide ((k : Int) < 3) = false := by simp; omega
  go_enter Tryd.func68, Tryd.ntmps68
  go_wp2
  exact ⟨rfl, rfl, rfl⟩

theorem ta_nil (w : World) : (Instr.typeAssert .nilIface 20 107 true).run Tryd.prog w = .ok (.tuple #[.int .i64 0, .bool false]) w := by kernel_rfl
theorem ta_hit (n : Int) (w : World) : (Instr.typeAssert (.iface 107 (.int .i64 n)) 20 107 true).run Tryd.prog w = .ok (.tuple #[.int .i64 n, .bool true]) w := by kernel_rfl

set_option maxRecDepth 100000 in
set_option maxHeartbeats 1000000 in
theorem catch_idle (p q r : Addr) (w : World) :
    CallsD Tryd.prog 66 #[.pointer (some p), .pointer (some q), .pointer (some r)] .returning w fun e u' w' => e = .returned (.tuple #[]) ∧ u' = .returning ∧ w' = w := by
  refine callsD_of_wpS Tryd.func66 rfl fun c₀ cs hu => ?_
  simp only [Tryd.ntmps66, List.size_toArray, List.length_cons, List.length_nil, Nat.reduceAdd, Nat.reduceSub, Array.replicate_succ, Array.replicate_zero, List.push_toArray, List.append_toArray, List.nil_append, List.cons_append]
  apply wpS_seq
  apply wpS_region
  simp [wpOpsS, go_sem, recoverD, hu, ta_nil, Exit.thenS]
  refine wpS_of_wp ?_
  go_wp2
  cases c₀
  simp_all [bodyPostS, results, Tryd.results66]

set_option maxRecDepth 100000 in
set_option maxHeartbeats 1000000 in
theorem catch_hit (B : Nat) (n x0 x1 x2 : Int) (older : List PanicEntry) (w : World)
    (c0 : w.cell? ⟨B, 0, none⟩ = some (.int .u32 x0)) (c1 : w.cell? ⟨B + 1, 0, none⟩ = some (.int .i64 x1)) (c2 : w.cell? ⟨B + 2, 0, none⟩ = some (.int .i64 x2))
    (f0 : w.frozen? ⟨B, 0, none⟩ = false) (f1 : w.frozen? ⟨B + 1, 0, none⟩ = false) (f2 : w.frozen? ⟨B + 2, 0, none⟩ = false) :
    CallsD Tryd.prog 66 #[.pointer (some ⟨B, 0, none⟩), .pointer (some ⟨B + 1, 0, none⟩), .pointer (some ⟨B + 2, 0, none⟩)] (.panicking ({ v := .iface 107 (.int .i64 n), recovered := false } :: older)) w fun e u' w' =>
      e = .returned (.tuple #[]) ∧ u' = .panicking ({ v := .iface 107 (.int .i64 n), recovered := true } :: older) ∧ w' = ((w.setCell ⟨B, 0, none⟩ (.int .u32 0)).setCell ⟨B + 1, 0, none⟩ (.int .i64 n)).setCell ⟨B + 2, 0, none⟩ (.int .i64 110) := by
  refine callsD_of_wpS Tryd.func66 rfl fun c₀ cs hu => ?_
  simp only [Tryd.ntmps66, List.size_toArray, List.length_cons, List.length_nil, Nat.reduceAdd, Nat.reduceSub, Array.replicate_succ, Array.replicate_zero, List.push_toArray, List.append_toArray, List.nil_append, List.cons_append]
  apply wpS_seq
  apply wpS_region
  simp [wpOpsS, go_sem, recoverD, hu, ta_hit, Exit.thenS]
  refine wpS_of_wp ?_
  go_wp2
  cases c₀
  simp_all [bodyPostS, results, Tryd.results66]
end Go.Proofs.YtmmoccceafcfkaaDoor
