/- The rows object: Len, Less, Swap; what a call changes. -/
import Derived.Test.YtkigoihdmojpfaaK2
import Derived.RegionTactic
import Derived.Deep.DeepCutAuto
namespace Go.Proofs.Ytkigoihdmojpfaa
open Go.RowKit
open Go.Sort (grow)

theorem cellL {w w' : World} (hb : Below w.heap.size w w') {a : Addr} {v : Value} (h : w.cell? a = some v) : w'.cell? a = some v :=
  (hb.cell (World.block_lt_of_cell? w a h)).trans h
/-- only these blocks changed; new ones lie behind -/
structure KB (S : List Nat) (w w' : World) : Prop where
  os : w'.os = w.os
  tape : w'.tape = w.tape
  output : w'.output = w.output
  size : w.heap.size ≤ w'.heap.size
  block : ∀ k, k < w.heap.size → k ∉ S → w'.heap[k]? = w.heap[k]?
theorem KB.refl (S : List Nat) (w : World) : KB S w w := ⟨rfl, rfl, rfl, Nat.le_refl _, fun _ _ _ => rfl⟩
theorem KB.trans {S : List Nat} {a b c : World} (h : KB S a b) (k : KB S b c) : KB S a c :=
  ⟨k.os.trans h.os, k.tape.trans h.tape, k.output.trans h.output, Nat.le_trans h.size k.size, fun i hi hn => (k.block i (Nat.lt_of_lt_of_le hi h.size) hn).trans (h.block i hi hn)⟩
theorem KB.of_below {S : List Nat} {w w' : World} (h : Below w.heap.size w w') : KB S w w' := ⟨h.os, h.tape, h.output, h.size, fun i hi _ => h.block i hi⟩
theorem KB.sub {S S' : List Nat} {w w' : World} (h : KB S w w') (hs : ∀ c ∈ S, c ∈ S' ∨ w.heap.size ≤ c) : KB S' w w' :=
  ⟨h.os, h.tape, h.output, h.size, fun i hi hn => h.block i hi (fun hm => by rcases hs i hm with h1 | h1; exact hn h1; omega)⟩
theorem KB.setCell (S : List Nat) (w : World) (b o : Nat) (v : Value) (hb : b ∈ S) : KB S w (w.setCell ⟨b, o, none⟩ v) :=
  ⟨rfl, rfl, rfl, by simp, fun i _ hn => Below.heap_setCell w _ v i (fun e => hn (by rw [e]; exact hb))⟩
theorem KB.of_grown {S : List Nat} {w w' : World} {r : Option Nat} (h : w.grownBy w' r) (hr : ∀ k, r = some k → k ∈ S) : KB S w w' :=
  ⟨h.os, h.tape, h.output, h.size, fun i hi hn => h.block i hi (fun e => hn (hr i e.symm))⟩
theorem KB.cell {S : List Nat} {w w' : World} (h : KB S w w') {b o : Nat} {v : Value} (hc : w.cell? ⟨b, o, none⟩ = some v) (hn : b ∉ S) : w'.cell? ⟨b, o, none⟩ = some v :=
  (World.cell?_of_block (h.block b (World.block_lt_of_cell? w _ hc) hn)).trans hc
theorem KB.below {S : List Nat} {n : Nat} {w w' : World} (h : KB S w w') (hS : ∀ c ∈ S, n ≤ c) (hn : n ≤ w.heap.size) : Below n w w' :=
  ⟨h.os, h.tape, h.output, h.size, fun k hk => h.block k (by omega) (fun hm => by have := hS k hm; omega)⟩

section
variable {W : World} {p m : Nat} {v : Value} {L : List TR} (h : HS W p m v L)
include h
theorem HS.look_some {i : Nat} {r : TR} (hi : L[i]? = some r) : (Instr.lookup 71 (.map (some m)) (keyV r.kind r.addr r.len) true).run Try.prog W = .ok (.tuple #[.int .i64 i, .bool true]) W := by
  obtain ⟨D, ho, ht⟩ := h.map
  have hw := h.wf r (List.mem_of_getElem? hi)
  obtain ⟨v, ps, hrun, hv⟩ := ho.look_ok keyed29 Try.underlying71 (z := .int .i64 0) (by kernel_rfl) (plainElem_int Try.underlying3 (by decide)) hw.kb.of
  have hm : ((r, i) : TR × Nat) ∈ idx L := mem_idx.2 hi
  have h1 := ht.has_mem hm
  have h2 := ht.at hm (.lit (.int .i64 0))
  unfold kfp klT at h1 h2
  rw [h1] at hrun
  rw [h2] at hv
  obtain ⟨c, rfl, hc, _⟩ := plainElem_int_inv Try.underlying3 hv
  simp [plD] at hc
  rw [hrun, ← hc.1]
theorem HS.look_none {k a n : Int} (hk : KBt k a n) (hn : ∀ r ∈ L, ¬ (r.kind = k ∧ r.addr = a ∧ r.len = n)) : (Instr.lookup 71 (.map (some m)) (keyV k a n) true).run Try.prog W = .ok (.tuple #[.int .i64 0, .bool false]) W := by
  obtain ⟨D, ho, ht⟩ := h.map
  obtain ⟨v, ps, hrun, hv⟩ := ho.look_ok keyed29 Try.underlying71 (z := .int .i64 0) (by kernel_rfl) (plainElem_int Try.underlying3 (by decide)) hk.of
  have hno : ∀ x ∈ idx L, kfp klT x ≠ kl k a n := fun x hx e => by
    obtain ⟨r, i⟩ := x
    have hr := List.mem_of_getElem? (mem_idx.1 hx)
    exact hn r hr (kl_inj (h.wf r hr).kb hk e)
  rw [ht.has_not hno] at hrun
  rw [ht.at_not hno] at hv
  obtain ⟨c, rfl, hc, _⟩ := plainElem_int_inv Try.underlying3 hv
  simp at hc
  rw [hrun, ← hc.1]
end

set_option maxHeartbeats 400000 in
theorem rLen_any (p m : Nat) (v : Value) (L : List TR) (w : World) (h : HS w p m v L) :
    Calls Try.prog 43 #[.pointer (some ⟨p, 0, none⟩)] w fun e w' => e = .returned (.int .i64 L.length) ∧ w = w' := by
  have c0 := h.c0
  obtain ⟨base, g, cap, rfl, _⟩ := h.sl
  clear h
  go_enter Try.func43, Try.ntmps43
  go_wp2
  go_ret
  exact ⟨rfl, rfl⟩
theorem ret_bool' {a b : Bool} (h : a = b) : Ending.returned (.bool a) = .returned (.bool b) := by rw [h]

set_option maxRecDepth 100000 in
set_option maxHeartbeats 4000000 in
theorem Less_any (p m : Nat) (v : Value) (L : List TR) (i j : Nat) (r s : TR) (w : World) (h : HS w p m v L) (hi : L[i]? = some r) (hj : L[j]? = some s) (_hl : L.length < 1000000) :
    Calls Try.prog 104 #[.pointer (some ⟨p, 0, none⟩), .int .i64 i, .int .i64 j] w fun e w' => e = .returned (.bool (ltT r s)) ∧ Below w.heap.size w w' := by
  have c0 := h.c0
  obtain ⟨base, g, cap, rfl, _, _, hS, _⟩ := h.sl
  obtain ⟨rfl, y0, y1, y2, y3⟩ := hS.row i r hi
  obtain ⟨_, z0, z1, z2, z3⟩ := hS.row j s hj
  have hi1 := (List.getElem?_eq_some_iff.1 hi).1
  have hj1 := (List.getElem?_eq_some_iff.1 hj).1
  have i0 : (0 : Int) ≤ (i : Int) := by omega
  have i1 : (i : Int) < (L.length : Int) := by omega
  have j0 : (0 : Int) ≤ (j : Int) := by omega
  have j1 : (j : Int) < (L.length : Int) := by omega
  have HR := Lib.hid (ordT_lt r s)
  simp only [Nat.zero_add] at y0 y1 y2 y3 z0 z1 z2 z3
  clear h hS hi hj
  obtain ⟨rk, ra, rn, rd⟩ := r
  obtain ⟨sk, sa, sn, sd⟩ := s
  have HO := Lib.hid (fun W => order_g ⟨rk, ra, rn, rd⟩ ⟨sk, sa, sn, sd⟩ W)
  unfold rowV at HO
  simp only at y0 y1 y2 y3 z0 z1 z2 z3
  go_enter Try.func104, Try.ntmps104
  go_wp2_with fail
  go_region_held3 (fun w' => w'.cell? ⟨p, 0, none⟩ = some (.slice (some ⟨g, 0, none⟩) L.length cap) ∧ w'.cell? ⟨g, i * 4, none⟩ = some (.int .i64 rk) ∧ w'.cell? ⟨g, i * 4 + 1, none⟩ = some (.int .u32 ra) ∧ w'.cell? ⟨g, i * 4 + 2, none⟩ = some (.int .i64 rn) ∧ w'.cell? ⟨g, i * 4 + 3, none⟩ = some (.int .i64 rd) ∧ w'.cell? ⟨g, j * 4, none⟩ = some (.int .i64 sk) ∧ w'.cell? ⟨g, j * 4 + 1, none⟩ = some (.int .u32 sa) ∧ w'.cell? ⟨g, j * 4 + 2, none⟩ = some (.int .i64 sn) ∧ w'.cell? ⟨g, j * 4 + 3, none⟩ = some (.int .i64 sd))
    (go_keep)
    ((go_at_call 51; (with_reducible refine (HO.out _).mono ?_); rintro e w2 ⟨rfl, hg2⟩; have HB := Lib.hid ((Below.refl _ w).drew.trans hg2.below); have c0 := cellL hg2.below c0; have y0 := cellL hg2.below y0; have y1 := cellL hg2.below y1; have y2 := cellL hg2.below y2; have y3 := cellL hg2.below y3; have z0 := cellL hg2.below z0; have z1 := cellL hg2.below z1; have z2 := cellL hg2.below z2; have z3 := cellL hg2.below z3; clear hg2))
  go_wp2_with fail
  go_ret
  exact ⟨ret_bool' HR.out, HB.out⟩
end Go.Proofs.Ytkigoihdmojpfaa
