/- Merged: T5 T6 T7 T8 T9. -/
import Derived.Test.YtbacahoihkpkpaaDoorT4
import Derived.Deep.DeepCutAuto
import Derived.Outline
import Derived.Deep.CutBlock
import Derived.Test.YtbacahoihkpkpaaDoorQ4
/- Contract: trie.hang. -/
namespace Go.Proofs.YtbacahoihkpkpaaDoor
open Go.RowKit Go.Shelf

/-- only these blocks may have changed, and there may be more -/
structure KB (S : List Nat) (w w' : World) : Prop where
  os : w'.os = w.os
  tape : w'.tape = w.tape
  output : w'.output = w.output
  size : w.heap.size ≤ w'.heap.size
  block : ∀ i, i < w.heap.size → i ∉ S → w'.heap[i]? = w.heap[i]?
theorem KB.refl (S : List Nat) (w : World) : KB S w w := ⟨rfl, rfl, rfl, Nat.le_refl _, fun _ _ _ => rfl⟩
theorem KB.trans {S : List Nat} {a b c : World} (h : KB S a b) (k : KB S b c) : KB S a c :=
  ⟨k.os.trans h.os, k.tape.trans h.tape, k.output.trans h.output, Nat.le_trans h.size k.size, fun i hi h1 => (k.block i (Nat.lt_of_lt_of_le hi h.size) h1).trans (h.block i hi h1)⟩
theorem KB.of_below {S : List Nat} {w w' : World} (h : Below w.heap.size w w') : KB S w w' := ⟨h.os, h.tape, h.output, h.size, fun i hi _ => h.block i hi⟩
theorem KB.sub {S S' : List Nat} {w w' : World} (h : KB S w w') (hs : ∀ c ∈ S, c ∈ S' ∨ w.heap.size ≤ c) : KB S' w w' :=
  ⟨h.os, h.tape, h.output, h.size, fun i hi hn => h.block i hi fun hm => by rcases hs i hm with h1 | h1; exact hn h1; omega⟩
theorem KB.setCell (S : List Nat) (w : World) (b o : Nat) (v : Value) (hb : b ∈ S) : KB S w (w.setCell ⟨b, o, none⟩ v) :=
  ⟨rfl, rfl, rfl, by simp [World.setCell], fun i _ h1 => Below.heap_setCell w _ v i (fun e => h1 (by rw [show i = b from e]; exact hb))⟩
theorem KB.below {S : List Nat} {n : Nat} {w w' : World} (h : KB S w w') (hS : ∀ c ∈ S, n ≤ c) (hn : n ≤ w.heap.size) : Below n w w' :=
  ⟨h.os, h.tape, h.output, h.size, fun k hk => h.block k (by omega) fun hm => by have := hS k hm; omega⟩
/-- behind blocks of one's own -/
theorem KB.thenB {S : List Nat} {w w1 w' : World} (h : Below w.heap.size w w1) (k : KB S w1 w') : KB S w w' :=
  ⟨k.os.trans h.os, k.tape.trans h.tape, k.output.trans h.output, Nat.le_trans h.size k.size, fun i hi h1 => (k.block i (Nat.lt_of_lt_of_le hi h.size) h1).trans (h.block i hi)⟩

theorem Common_k (x y : Key) (w : World) (hx : x.length ≤ 32) (hy : y.length ≤ 32) :
    Calls Tryd.prog 62 #[.agg #[.int .u32 (ka x), .int .i64 x.length], .agg #[.int .u32 (ka y), .int .i64 y.length]] w fun e w' =>
      e = .returned (.tuple #[.agg #[.int .u32 (ka (lcp x y)), .int .i64 (lcp x y).length], .int .i64 0]) ∧ Below w.heap.size w w' :=
  (Common_t (ka x) x.length (ka y) y.length w (ka_0 x) (ka_1 x) (ka_0 y) (ka_1 y) (ka_right hx) (ka_right hy)).mono fun e w' ⟨⟨k, h1, h2, h3, he⟩, hb⟩ => by
    obtain ⟨e1, e2⟩ := ka_common hx h1 (fun j hj1 hj2 => h2 j hj1 hj2) h3
    exact ⟨by rw [he, e1, e2], hb⟩

theorem keq_f {x y : Key} (hx : x.length ≤ 32) (h : x ≠ y) : (ka x == ka y && ((x.length : Int) == (y.length : Int))) = false := by
  rw [← Bool.not_eq_true]
  intro h2
  simp only [Bool.and_eq_true, beq_iff_eq] at h2
  exact h (ka_inj hx h2.1 h2.2)

theorem heapS (w : World) (b o : Nat) (v : Value) (k : Nat) (hk : k ≠ b) : (w.setCell ⟨b, o, none⟩ v).heap[k]? = w.heap[k]? := Below.heap_setCell w _ v k hk
theorem sizeS (w : World) (a : Addr) (v : Value) : (w.setCell a v).heap.size = w.heap.size := by simp [World.setCell]
theorem cell_heap {W : World} {b o : Nat} {cs : Array Value} {t : TypeId} {fz : Nat × Nat} (h : W.heap[b]? = some (.cells cs t fz)) : W.cell? ⟨b, o, none⟩ = cs[o]? := by simp [World.cell?, h]

/-- what hang has done at a place -/
structure HangP (w w' : World) (a : Addr) (X Y : TT) : Prop where
  kb : KB (a.block :: X.blocks) w w'
  here : Y.In w'
  cell : w'.cell? a = some Y.ptr
  obj : ∀ cs t fz, w.heap[a.block]? = some (.cells cs t fz) → w'.heap[a.block]? = some (.cells (cs.setIfInBounds a.off Y.ptr) t fz)
theorem HangP.turned {w w' : World} {a : Addr} {X Y : TT} (h : HangP w w' a X Y) {S : List Nat} (hS : ∀ c ∈ S, c < w.heap.size) : Turned w w' a X Y S :=
  ⟨h.here, h.cell, fun c hc h1 h2 => h.kb.block c (hS c hc) (by simp [h1, h2]), h.obj⟩

theorem setIfInBounds_self {cs : Array Value} {o : Nat} {v : Value} (h : cs[o]? = some v) : cs.setIfInBounds o v = cs := by
  apply Array.ext_getElem?
  intro i
  rw [Array.getElem?_setIfInBounds]
  split
  · rename_i e; subst e
    obtain ⟨h1, _⟩ := Array.getElem?_eq_some_iff.1 h
    rw [if_pos h1, h]
  · rfl

set_option maxHeartbeats 400000 in
theorem hang_nil (ab ao : Nat) (p : Key) (v : Int) (w : World) (c0 : w.cell? ⟨ab, ao, none⟩ = some (.pointer none)) (f0 : w.frozen? ⟨ab, ao, none⟩ = false) :
    Calls Tryd.prog 39 #[.pointer (some ⟨ab, ao, none⟩), .agg #[.int .u32 (ka p), .int .i64 p.length], .int .i64 v] w fun e w' => (∃ u, e = .returned u) ∧
      ∃ b1, w.heap.size ≤ b1 ∧ b1 < w'.heap.size ∧ ∀ b2, HangP w w' ⟨ab, ao, none⟩ .nil (TT.hang b1 b2 p v .nil) := by
  have hab := World.block_lt_of_cell? w _ c0
  simp only at hab
  have C0 := Lib.hid c0
  go_enter Tryd.func39, Tryd.ntmps39
  go_wp2_with fail
  go_end0
  have hbx : (((w.setCell ⟨ab, ao, none⟩ (.pointer (some ⟨w.heap.size + 1, 0, none⟩))).alloc (.cells #[.int .u32 (ka p), .int .i64 p.length] 26)).alloc (.cells #[.int .u32 (ka p), .int .i64 p.length, .int .i64 v, .bool true, .pointer none, .pointer none] 82)).heap[w.heap.size + 1]? = some (nodeO p (some v) .nil .nil) := by
    simp only [heapA, World.size_alloc, sizeS]; rw [if_pos trivial]; rfl
  have hold : ∀ k, k < w.heap.size → (((w.setCell ⟨ab, ao, none⟩ (.pointer (some ⟨w.heap.size + 1, 0, none⟩))).alloc (.cells #[.int .u32 (ka p), .int .i64 p.length] 26)).alloc (.cells #[.int .u32 (ka p), .int .i64 p.length, .int .i64 v, .bool true, .pointer none, .pointer none] 82)).heap[k]? = (w.setCell ⟨ab, ao, none⟩ (.pointer (some ⟨w.heap.size + 1, 0, none⟩))).heap[k]? := by
    intro k hk
    simp only [heapA, World.size_alloc, sizeS]; rw [if_neg (by omega), if_neg (by omega)]
  refine ⟨⟨_, rfl⟩, w.heap.size + 1, by omega, by simp, fun b2 => ⟨⟨rfl, rfl, rfl, by simp; omega, fun i hi hn => ?_⟩, ⟨hbx, trivial, trivial⟩, ?_, fun cs t fz h => ?_⟩⟩
  · rw [hold i hi]
    exact heapS _ _ _ _ _ (by simp at hn; exact hn.1)
  · rw [World.cell?_of_block (hold ab hab)]
    exact World.cell?_setCell_same' _ _ _ (by rw [C0.out]; rfl)
  · exact (hold ab hab).trans (heap_set _ h)

set_option maxHeartbeats 400000 in
theorem hang_same (ab ao b : Nat) (p : Key) (v : Int) (o : Option Int) (l r : TT) (w : World) (c0 : w.cell? ⟨ab, ao, none⟩ = some (.pointer (some ⟨b, 0, none⟩))) (hin : (TT.node b p o l r).In w) (hnd : (ab :: (TT.node b p o l r).blocks).Nodup) :
    Calls Tryd.prog 39 #[.pointer (some ⟨ab, ao, none⟩), .agg #[.int .u32 (ka p), .int .i64 p.length], .int .i64 v] w fun e w' => (∃ u, e = .returned u) ∧
      ∀ b1 b2, HangP w w' ⟨ab, ao, none⟩ (.node b p o l r) (TT.hang b1 b2 p v (.node b p o l r)) := by
  have hab := World.block_lt_of_cell? w _ c0
  have n0 := hin.c0
  have n1 := hin.c1
  have n2 := hin.c2
  have n3 := hin.c3
  have f2 := hin.f 2
  have f3 := hin.f 3
  have hbl : b < w.heap.size := World.block_lt_of_cell? w _ n0
  simp only at hab
  have C0 := Lib.hid c0
  have HI := Lib.hid hin
  have HN := Lib.hid hnd
  clear hin hnd
  go_enter Tryd.func39, Tryd.ntmps39
  go_wp2_with fail
  go_quiet (fail)
  go_wp2_with fail
  go_end0
  generalize hW : ((w.alloc (Obj.cells #[Value.int IntKind.u32 (ka p), Value.int IntKind.i64 p.length] 26)).alloc (Obj.cells #[Value.int IntKind.u32 (ka p), Value.int IntKind.i64 p.length, Value.int IntKind.i64 v, Value.bool true, Value.pointer none, Value.pointer none] 82)).drewN nq = W
  have hB : Below w.heap.size w W := by subst hW; exact below_drewN (((Below.refl _ w).alloc (Nat.le_refl _) _).alloc (by simp) _) _
  clear hW
  obtain ⟨i1, i2, i3⟩ := HI.out
  have hn := HN.out
  simp only [TT.blocks, List.nodup_cons, List.mem_cons, List.mem_append, not_or] at hn
  obtain ⟨⟨hn1, hn2, hn3⟩, ⟨hn4, hn5⟩, _⟩ := hn
  have hbox : ((W.setCell ⟨b, 2, none⟩ (.int .i64 v)).setCell ⟨b, 3, none⟩ (.bool true)).heap[b]? = some (nodeO p (some v) l r) := heap_set _ (heap_set _ ((hB.block b hbl).trans i1))
  have hoth : ∀ c, c ≠ b → ((W.setCell ⟨b, 2, none⟩ (.int .i64 v)).setCell ⟨b, 3, none⟩ (.bool true)).heap[c]? = W.heap[c]? := fun c hc => (heapS _ _ _ _ c hc).trans (heapS _ _ _ _ c hc)
  refine ⟨⟨_, rfl⟩, fun b1 b2 => ?_⟩
  simp only [TT.hang, if_true]
  refine ⟨⟨hB.os, hB.tape, hB.output, by have := hB.size; simpa [sizeS] using this, fun i hi hm => ?_⟩, ⟨hbox, (i2.below hB).of_blocks fun c hc => hoth c (fun e => hn4 (e ▸ hc)), (i3.below hB).of_blocks fun c hc => hoth c (fun e => hn5 (e ▸ hc))⟩, ?_, fun cs tt fz h => ?_⟩
  · simp only [TT.blocks, List.mem_cons, not_or] at hm
    exact (hoth i hm.2.1).trans (hB.block i hi)
  · rw [World.cell?_of_block (w := W) (a := ⟨ab, ao, none⟩) (hoth ab hn1)]
    exact (hB.cell hab).trans C0.out
  · have hcs : cs[ao]? = some (.pointer (some ⟨b, 0, none⟩)) := by rw [← cell_heap h]; exact C0.out
    have e : cs.setIfInBounds ao (TT.node b p (some v) l r).ptr = cs := setIfInBounds_self hcs
    exact (hoth ab hn1).trans ((hB.block ab hab).trans (by rw [e]; exact h))

/-- n.Prefix and p are not the same -/
theorem neq_cases {k p : Key} (hk : k.length ≤ 32) (h : k ≠ p) : (ka k == ka p) = false ∨ (ka k = ka p ∧ ((k.length : Int) == (p.length : Int)) = false ∧ (k.length == p.length) = false) := by
  by_cases e : ka k = ka p
  · right
    have : k.length ≠ p.length := fun e2 => h (ka_inj hk e (by omega))
    exact ⟨e, by simp; omega, by simp [this]⟩
  · left; simp [e]

theorem hangP_of {w U : World} {ab ao : Nat} {X Y : TT} {u : Value} (hB : Below w.heap.size w U) (c0 : w.cell? ⟨ab, ao, none⟩ = some u) (hin : Y.In U) (hno : ab ∉ Y.blocks) : HangP w (U.setCell ⟨ab, ao, none⟩ Y.ptr) ⟨ab, ao, none⟩ X Y := by
  have hab := World.block_lt_of_cell? w _ c0
  simp only at hab
  refine ⟨⟨hB.os, hB.tape, hB.output, by have := hB.size; simpa [sizeS] using this, fun i hi hm => ?_⟩, hin.of_blocks fun c hc => heapS _ _ _ _ c (fun e => hno (e ▸ hc)), ?_, fun cs t fz h => ?_⟩
  · simp only [List.mem_cons, not_or] at hm
    exact (heapS _ _ _ _ i hm.1).trans (hB.block i hi)
  · exact World.cell?_setCell_same' _ _ _ (by rw [hB.cell (p := ⟨ab, ao, none⟩) hab, c0]; rfl)
  · exact heap_set _ ((hB.block ab hab).trans h)
theorem size_alloc_lt (w : World) (o : Obj) : w.heap.size < (w.alloc o).heap.size := by simp
/-- behind the call of Common -/
def comBx (k p : Key) (W1 : World) (u : Value) (wx : World) : Prop := ∃ bx, u = .pointer (some ⟨bx, 0, none⟩) ∧ W1.heap.size ≤ bx ∧ PBox wx bx (ka (lcp k p)) (lcp k p).length ∧ Below W1.heap.size W1 wx

set_option maxRecDepth 100000 in
set_option maxHeartbeats 2000000 in
theorem hang_part (ab ao b : Nat) (k p : Key) (v : Int) (o : Option Int) (l r : TT) (w : World) (hk : k.length ≤ 32) (hp : p.length ≤ 32) (hkp : ¬ k <+: p) (c0 : w.cell? ⟨ab, ao, none⟩ = some (.pointer (some ⟨b, 0, none⟩))) (f0 : w.frozen? ⟨ab, ao, none⟩ = false) (hin : (TT.node b k o l r).In w) (hnd : (ab :: (TT.node b k o l r).blocks).Nodup) :
    Calls Tryd.prog 39 #[.pointer (some ⟨ab, ao, none⟩), .agg #[.int .u32 (ka p), .int .i64 p.length], .int .i64 v] w fun e w' => (∃ u, e = .returned u) ∧
      ∃ b1 b2, w.heap.size ≤ b1 ∧ b1 < b2 ∧ b2 ≤ w'.heap.size ∧ HangP w w' ⟨ab, ao, none⟩ (.node b k o l r) (TT.hang b1 b2 p v (.node b k o l r)) := by
  have hab := World.block_lt_of_cell? w _ c0
  have n0 := hin.c0
  have n1 := hin.c1
  have hbl : b < w.heap.size := World.block_lt_of_cell? w _ n0
  have hne : k ≠ p := fun e => hkp (by rw [e]; exact List.prefix_refl _)
  simp only at hab
  have C0 := Lib.hid c0
  have F0 := Lib.hid f0
  have HI := Lib.hid hin
  have HN := Lib.hid hnd
  have Hkp := Lib.hid hkp
  have hcs := neq_cases hk hne
  clear hin hnd hkp
  go_enter Tryd.func39, Tryd.ntmps39
  go_upto_region 12 with fail
  generalize hW : (w.alloc (Obj.cells #[Value.int IntKind.u32 (ka p), Value.int IntKind.i64 p.length] 26)).alloc (Obj.cells #[Value.int IntKind.u32 (ka p), Value.int IntKind.i64 p.length, Value.int IntKind.i64 v, Value.bool true, Value.pointer none, Value.pointer none] 82) = W1
  have hB : Below w.heap.size w W1 := by subst hW; exact ((Below.refl _ w).alloc (Nat.le_refl _) _).alloc (by simp) _
  have hsz : W1.heap.size = w.heap.size + 1 + 1 := by subst hW; simp
  have hpb : PBox W1 w.heap.size (ka p) p.length := by subst hW; exact (PBox.new w _ _).alloc _
  have hlf : W1.heap[w.heap.size + 1]? = some (nodeO p (some v) .nil .nil) := by subst hW; simp only [heapA, World.size_alloc]; rw [if_pos trivial]; rfl
  clear hW
  have m0 := (hB.cell (p := ⟨b, 0, none⟩) hbl).trans n0
  have m1 := (hB.cell (p := ⟨b, 1, none⟩) hbl).trans n1
  have m2 := (hB.cell (p := ⟨ab, ao, none⟩) hab).trans C0.out
  have q0 := hpb.c0
  have q1 := hpb.c1
  clear n0 n1 c0
  have HB := Lib.hid hB
  have HSz := Lib.hid hsz
  have HP := Lib.hid hpb
  have HLf := Lib.hid hlf
  clear hB hsz hpb hlf
  go_cut [66] (fun s wx => s = .bool false ∧ ∃ n, wx = W1.drewN n)
  case first => as_aux_lemma =>
    rcases hcs with h | ⟨e, h1, h2⟩
    · go_quiet (fail)
      go_wp2_with fail
      go_meet
      exact ⟨rfl, _, rfl⟩
    · rw [e] at m0
      go_quiet (fail)
      go_wp2_with fail
      go_meet
      exact ⟨rfl, _, rfl⟩
  case rest =>
    obtain ⟨rfl, nq, rfl⟩ := hcut
    go_upto_region 3 with fail
    have hcl := (lcp_left k p).length_le
    go_cut [8] (fun s wx => comBx k p W1 s wx)
    case first => as_aux_lemma =>
      have hlt1 : w.heap.size < W1.heap.size := by have := HSz.out; omega
      have hlt2 : b < W1.heap.size := by have := HSz.out; omega
      have d1 : b ≠ W1.heap.size := by omega
      have d2 : w.heap.size ≠ W1.heap.size := by omega
      have d3 : W1.heap.size ≠ b := by omega
      have d4 : W1.heap.size ≠ w.heap.size := by omega
      have HA0 := Lib.hid (show ∀ n o, ((W1.drewN n).alloc o).cell? ⟨b, 0, none⟩ = some (.int .u32 (ka k)) from fun n o => ((below_drewN (Below.refl _ W1) n).alloc (Nat.le_refl _) o).cell (p := ⟨b, 0, none⟩) hlt2 |>.trans m0)
      have HA1 := Lib.hid (show ∀ n o, ((W1.drewN n).alloc o).cell? ⟨b, 1, none⟩ = some (.int .i64 k.length) from fun n o => ((below_drewN (Below.refl _ W1) n).alloc (Nat.le_refl _) o).cell (p := ⟨b, 1, none⟩) hlt2 |>.trans m1)
      have HA2 := Lib.hid (show ∀ n o, ((W1.drewN n).alloc o).cell? ⟨w.heap.size, 0, none⟩ = some (.int .u32 (ka p)) from fun n o => ((below_drewN (Below.refl _ W1) n).alloc (Nat.le_refl _) o).cell (p := ⟨w.heap.size, 0, none⟩) hlt1 |>.trans q0)
      have HA3 := Lib.hid (show ∀ n o, ((W1.drewN n).alloc o).cell? ⟨w.heap.size, 1, none⟩ = some (.int .i64 p.length) from fun n o => ((below_drewN (Below.refl _ W1) n).alloc (Nat.le_refl _) o).cell (p := ⟨w.heap.size, 1, none⟩) hlt1 |>.trans q1)
      go_region_held3 (fun w' => w'.cell? ⟨b, 0, none⟩ = some (.int .u32 (ka k)) ∧ w'.cell? ⟨b, 1, none⟩ = some (.int .i64 k.length) ∧ w'.cell? ⟨w.heap.size, 0, none⟩ = some (.int .u32 (ka p)) ∧ w'.cell? ⟨w.heap.size, 1, none⟩ = some (.int .i64 p.length))
        (go_keep)
        (first
          | (go_at_call 62; refine (Common_k k p _ hk hp).mono ?_; rintro e w5 ⟨rfl, hb⟩; have hy := PBox.below (PBox.new (W1.drewN _) 0 0) hb; have y0 : w5.cell? ⟨W1.heap.size, 0, none⟩ = some (.int .u32 0) := hy.c0; have y1 : w5.cell? ⟨W1.heap.size, 1, none⟩ = some (.int .i64 0) := hy.c1; have y2 : w5.frozen? ⟨W1.heap.size, 0, none⟩ = false := hy.f0; have y3 : w5.frozen? ⟨W1.heap.size, 1, none⟩ = false := hy.f1; have z4 := Nat.le_trans (Nat.le_trans (Nat.le_refl W1.heap.size) (Nat.le_of_lt (size_alloc_lt _ _))) hb.size; have z0 := (hb.cell (p := ⟨b, 0, none⟩) (Nat.lt_of_lt_of_le hlt2 (Nat.le_of_lt (size_alloc_lt _ _)))).trans (HA0.out _ _); have z1 := (hb.cell (p := ⟨b, 1, none⟩) (Nat.lt_of_lt_of_le hlt2 (Nat.le_of_lt (size_alloc_lt _ _)))).trans (HA1.out _ _); have z2 := (hb.cell (p := ⟨w.heap.size, 0, none⟩) (Nat.lt_of_lt_of_le hlt1 (Nat.le_of_lt (size_alloc_lt _ _)))).trans (HA2.out _ _); have z3 := (hb.cell (p := ⟨w.heap.size, 1, none⟩) (Nat.lt_of_lt_of_le hlt1 (Nat.le_of_lt (size_alloc_lt _ _)))).trans (HA3.out _ _); have z5 := Nat.lt_of_lt_of_le hlt2 z4; have z6 := Nat.lt_of_lt_of_le hlt1 z4; have HY := Lib.hid hy; have HB5 := Lib.hid hb; clear hb hy)
          | (go_at_call 62; refine (Common_k k p _ hk hp).mono ?_; rintro e w5 ⟨rfl, hb⟩; have z4 := Nat.le_trans (Nat.le_refl W1.heap.size) hb.size; have z0 := (hb.cell (p := ⟨b, 0, none⟩) hlt2).trans m0; have z1 := (hb.cell (p := ⟨b, 1, none⟩) hlt2).trans m1; have z2 := (hb.cell (p := ⟨w.heap.size, 0, none⟩) hlt1).trans q0; have z3 := (hb.cell (p := ⟨w.heap.size, 1, none⟩) hlt1).trans q1; have z5 := Nat.lt_of_lt_of_le hlt2 z4; have z6 := Nat.lt_of_lt_of_le hlt1 z4; have HB5 := Lib.hid hb; clear hb))
      · go_wp2_with fail
        go_meet
        exact ⟨w5.heap.size, rfl, z4, PBox.new w5 _ _, ((below_drewN (Below.refl _ W1) _).trans (HB5.out.mono (Nat.le_refl _))).alloc z4 _⟩
      · go_wp2_with fail
        go_meet
        exact ⟨W1.heap.size, rfl, Nat.le_refl _, HY.out.set _ _, ((((below_drewN (Below.refl _ W1) _).alloc (Nat.le_refl _) _).trans (HB5.out.mono (Nat.le_of_lt (size_alloc_lt _ _)))).setCell (p := ⟨W1.heap.size, 0, none⟩) (Nat.le_refl _) _).setCell (p := ⟨W1.heap.size, 1, none⟩) (Nat.le_refl _) _⟩
    case rest =>
      obtain ⟨bx, rfl, hbx, hpc, hbc⟩ := hcut
      have hlt1 : w.heap.size < W1.heap.size := by have := HSz.out; omega
      have hlt2 : b < W1.heap.size := by have := HSz.out; omega
      have hlt3 : ab < W1.heap.size := by have := HSz.out; omega
      have e0 := (hbc.cell (p := ⟨b, 0, none⟩) hlt2).trans m0
      have e1 := (hbc.cell (p := ⟨b, 1, none⟩) hlt2).trans m1
      have e2 := (hbc.cell (p := ⟨ab, ao, none⟩) hlt3).trans m2
      have g0 := (hbc.cell (p := ⟨w.heap.size, 0, none⟩) hlt1).trans q0
      have g1 := (hbc.cell (p := ⟨w.heap.size, 1, none⟩) hlt1).trans q1
      have x0 := hpc.c0
      have x1 := hpc.c1
      have h2 : Below w.heap.size w wc := HB.out.trans (hbc.mono HB.out.size)
      have e3 : wc.frozen? ⟨ab, ao, none⟩ = false := (h2.frozen (p := ⟨ab, ao, none⟩) hab).trans f0
      have hlf : wc.heap[w.heap.size + 1]? = some (nodeO p (some v) .nil .nil) := (hbc.block _ (by have := HSz.out; omega)).trans HLf.out
      have hszx := hbc.size
      have HB2 := Lib.hid h2
      have HLx := Lib.hid hlf
      have HXb := Lib.hid hpc
      clear m0 m1 m2 q0 q1 hpc hbc h2 hlf hcs f0
      by_cases hc : lcp k p = p
      · have hpk : p <+: k := by rw [← hc]; exact lcp_left k p
        obtain ⟨_, hlt⟩ := pre_bit hpk (fun e => hne e.symm)
        have hp31 : p.length < 32 := by omega
        have Hc := Lib.hid hc
        rw [hc] at x0 x1
        clear hc hpk
        have l4 : wc.cell? ⟨w.heap.size + 1, 4, none⟩ = some (.pointer none) := cell_heap HLx.out
        have l5 : wc.cell? ⟨w.heap.size + 1, 5, none⟩ = some (.pointer none) := cell_heap HLx.out
        have lf4 : wc.frozen? ⟨w.heap.size + 1, 4, none⟩ = false := by simp [World.frozen?, HLx.out, nodeO]
        have lf5 : wc.frozen? ⟨w.heap.size + 1, 5, none⟩ = false := by simp [World.frozen?, HLx.out, nodeO]
        cases hbit : k.getD p.length false
        · have HBit := Lib.hid hbit
          clear hbit
          go_wp2_with fail
          refine wp_region_still_tail 13 (by kernel_rfl) (by kernel_rfl) ?_
          simp only [List.take_succ_cons, List.take_zero, List.drop_succ_cons, List.drop_zero]
          iterate 8 still_step
          still_call (Bit_s0 k p.length _ hp31 HBit.out)
          repeat still_step
          refine wpStill_nil ?_
          go_upto_region 9 with fail
          obtain ⟨U, hU⟩ : ∃ U, (wc.setCell ⟨w.heap.size + 1, 4, none⟩ (.pointer (some ⟨b, 0, none⟩))).drew = U := ⟨_, rfl⟩
          rw [hU]
          have hBU : Below w.heap.size w U := by rw [← hU]; exact (HB2.out.setCell (p := ⟨w.heap.size + 1, 4, none⟩) (by simp) _).drew
          have hold : ∀ c, c ≠ w.heap.size + 1 → U.heap[c]? = wc.heap[c]? := fun c hc => by rw [← hU]; exact heapS wc _ _ _ c hc
          have hbox : U.heap[w.heap.size + 1]? = some (nodeO p (some v) (.node b k o l r) .nil) := by rw [← hU]; exact heap_set (W := wc) _ HLx.out
          have u0 : U.cell? ⟨ab, ao, none⟩ = some (.pointer (some ⟨b, 0, none⟩)) := (World.cell?_of_block (w := wc) (a := ⟨ab, ao, none⟩) (hold ab (by omega))).trans e2
          have u1 : U.frozen? ⟨ab, ao, none⟩ = false := (hBU.frozen (p := ⟨ab, ao, none⟩) hab).trans F0.out
          clear hU e0 e1 e2 e3 g0 g1 x0 x1 l4 l5 lf4 lf5
          have HBU := Lib.hid hBU
          have Hbox := Lib.hid hbox
          have Hold := Lib.hid hold
          clear hBU hbox hold
          go_wp2_with fail
          go_end0
          refine ⟨⟨_, rfl⟩, w.heap.size + 1, w.heap.size + 1 + 1, by omega, by omega, by have := HBU.out.size; have := World.block_lt_of_cell? U _ u0; simp; have h3 := (Array.getElem?_eq_some_iff.1 Hbox.out).1; omega, ?_⟩
          have hh : ∀ b2, TT.hang (w.heap.size + 1) b2 p v (.node b k o l r) = .node (w.heap.size + 1) p (some v) (.node b k o l r) .nil := fun b2 => by simp only [TT.hang, if_neg hne, if_pos Hc.out, HBit.out]; rfl
          rw [hh]
          have hn := HN.out
          refine hangP_of (Y := .node (w.heap.size + 1) p (some v) (.node b k o l r) .nil) HBU.out C0.out ⟨Hbox.out, HI.out.below HBU.out, trivial⟩ ?_
          simp only [TT.blocks, List.nodup_cons, List.mem_cons, List.mem_append, not_or, List.append_nil] at hn ⊢
          exact ⟨by omega, hn.1.1, hn.1.2.1, hn.1.2.2⟩
        · have HBit := Lib.hid hbit
          clear hbit
          go_wp2_with fail
          refine wp_region_still_tail 13 (by kernel_rfl) (by kernel_rfl) ?_
          simp only [List.take_succ_cons, List.take_zero, List.drop_succ_cons, List.drop_zero]
          iterate 8 still_step
          still_call (Bit_s1 k p.length _ hp31 HBit.out)
          repeat still_step
          refine wpStill_nil ?_
          go_upto_region 9 with fail
          obtain ⟨U, hU⟩ : ∃ U, (wc.setCell ⟨w.heap.size + 1, 5, none⟩ (.pointer (some ⟨b, 0, none⟩))).drew = U := ⟨_, rfl⟩
          rw [hU]
          have hBU : Below w.heap.size w U := by rw [← hU]; exact (HB2.out.setCell (p := ⟨w.heap.size + 1, 5, none⟩) (by simp) _).drew
          have hold : ∀ c, c ≠ w.heap.size + 1 → U.heap[c]? = wc.heap[c]? := fun c hc => by rw [← hU]; exact heapS wc _ _ _ c hc
          have hbox : U.heap[w.heap.size + 1]? = some (nodeO p (some v) .nil (.node b k o l r)) := by rw [← hU]; exact heap_set (W := wc) _ HLx.out
          have u0 : U.cell? ⟨ab, ao, none⟩ = some (.pointer (some ⟨b, 0, none⟩)) := (World.cell?_of_block (w := wc) (a := ⟨ab, ao, none⟩) (hold ab (by omega))).trans e2
          have u1 : U.frozen? ⟨ab, ao, none⟩ = false := (hBU.frozen (p := ⟨ab, ao, none⟩) hab).trans F0.out
          clear hU e0 e1 e2 e3 g0 g1 x0 x1 l4 l5 lf4 lf5
          have HBU := Lib.hid hBU
          have Hbox := Lib.hid hbox
          have Hold := Lib.hid hold
          clear hBU hbox hold
          go_wp2_with fail
          go_end0
          refine ⟨⟨_, rfl⟩, w.heap.size + 1, w.heap.size + 1 + 1, by omega, by omega, by have := HBU.out.size; have := World.block_lt_of_cell? U _ u0; simp; have h3 := (Array.getElem?_eq_some_iff.1 Hbox.out).1; omega, ?_⟩
          have hh : ∀ b2, TT.hang (w.heap.size + 1) b2 p v (.node b k o l r) = .node (w.heap.size + 1) p (some v) .nil (.node b k o l r) := fun b2 => by simp only [TT.hang, if_neg hne, if_pos Hc.out, HBit.out]; rfl
          rw [hh]
          have hn := HN.out
          refine hangP_of (Y := .node (w.heap.size + 1) p (some v) .nil (.node b k o l r)) HBU.out C0.out ⟨Hbox.out, trivial, HI.out.below HBU.out⟩ ?_
          simp only [TT.blocks, List.nodup_cons, List.mem_cons, List.mem_append, not_or, List.nil_append] at hn ⊢
          exact ⟨by omega, hn.1.1, hn.1.2.1, hn.1.2.2⟩
      · have hck : lcp k p ≠ k := fun e => Hkp.out (by have := lcp_right k p; rwa [e] at this)
        have hpart := lcp_part hck hc
        have hcp := (pre_bit (lcp_right k p) hc).2
        have hc31 : (lcp k p).length < 32 := by omega
        have t1 : (((lcp k p).length : Int) == (p.length : Int)) = false := by simp; omega
        have t2 : ((lcp k p).length == p.length) = false := by simp; omega
        have t3 : (((lcp k p).length : Int) != (p.length : Int)) = true := by simp; omega
        have Hck := Lib.hid hck
        have Hc := Lib.hid hc
        clear hck hc
        go_upto_region 7 with fail
        obtain ⟨V, hV⟩ : ∃ V, wc.alloc (.cells #[.int .u32 (ka (lcp k p)), .int .i64 (lcp k p).length, .int .i64 0, .bool false, .pointer none, .pointer none] 82) = V := ⟨_, rfl⟩
        rw [hV]
        have hBV : Below wc.heap.size wc V := by rw [← hV]; exact (Below.refl _ wc).alloc (Nat.le_refl _) _
        have hVo : V.heap[wc.heap.size]? = some (nodeO (lcp k p) none .nil .nil) := by rw [← hV]; exact World.alloc_heap_new wc _
        have hVs : V.heap.size = wc.heap.size + 1 := by rw [← hV]; simp
        clear hV
        have wl1 : w.heap.size + 1 < wc.heap.size := (Array.getElem?_eq_some_iff.1 HLx.out).1
        have e0' := (hBV.cell (p := ⟨b, 0, none⟩) (by simp; omega)).trans e0
        have g0' := (hBV.cell (p := ⟨w.heap.size, 0, none⟩) (by simp; omega)).trans g0
        have x1' := (hBV.cell (p := ⟨bx, 1, none⟩) (by have := HXb.out.lt; simp; omega)).trans x1
        have l4 : V.cell? ⟨wc.heap.size, 4, none⟩ = some (.pointer none) := cell_heap hVo
        have l5 : V.cell? ⟨wc.heap.size, 5, none⟩ = some (.pointer none) := cell_heap hVo
        have lf4 : V.frozen? ⟨wc.heap.size, 4, none⟩ = false := by simp [World.frozen?, hVo, nodeO]
        have lf5 : V.frozen? ⟨wc.heap.size, 5, none⟩ = false := by simp [World.frozen?, hVo, nodeO]
        have d1 : b ≠ wc.heap.size := by omega
        have d2 : w.heap.size ≠ wc.heap.size := by omega
        have d3 : bx ≠ wc.heap.size := by have := HXb.out.lt; omega
        have HBV := Lib.hid hBV
        have E0 := Lib.hid e0
        have X1 := Lib.hid x1
        have HVo := Lib.hid hVo
        clear hBV hVo e0 e1 e2 e3 g0 g1 x0 x1
        cases hbit : p.getD (lcp k p).length false
        · have HBit := Lib.hid hbit
          have hkb : k.getD (lcp k p).length false = true := by
            rw [hbit] at hpart
            cases h : k.getD (lcp k p).length false
            · rw [h] at hpart; cases hpart
            · rfl
          have HKb := Lib.hid hkb
          clear hbit hkb hpart
          refine wp_region_still_tail 10 (by kernel_rfl) (by kernel_rfl) ?_
          simp only [List.take_succ_cons, List.take_zero, List.drop_succ_cons, List.drop_zero]
          iterate 5 still_step
          still_call (Bit_s0 p (lcp k p).length _ hc31 HBit.out)
          repeat still_step
          refine wpStill_nil ?_
          go_upto_region 8 with fail
          obtain ⟨V2, hV2⟩ : ∃ V2, (V.setCell ⟨wc.heap.size, 4, none⟩ (.pointer (some ⟨w.heap.size + 1, 0, none⟩))).drew = V2 := ⟨_, rfl⟩
          rw [hV2]
          have hB3 : Below wc.heap.size wc V2 := by rw [← hV2]; exact (HBV.out.setCell (p := ⟨wc.heap.size, 4, none⟩) (Nat.le_refl _) _).drew
          have hVo2 : V2.heap[wc.heap.size]? = some (nodeO (lcp k p) none (.node (w.heap.size + 1) p (some v) .nil .nil) .nil) := by rw [← hV2]; exact heap_set (W := V) _ HVo.out
          clear hV2 e0' g0' x1' l4 l5 lf4 lf5
          have e0 := (hB3.cell (p := ⟨b, 0, none⟩) (by simp; omega)).trans E0.out
          have x1 := (hB3.cell (p := ⟨bx, 1, none⟩) (by have := HXb.out.lt; simp; omega)).trans X1.out
          have l4 : V2.cell? ⟨wc.heap.size, 5, none⟩ = some (.pointer none) := cell_heap hVo2
          have lf4 : V2.frozen? ⟨wc.heap.size, 5, none⟩ = false := by simp [World.frozen?, hVo2, nodeO]
          have HB3 := Lib.hid hB3
          have HVo2 := Lib.hid hVo2
          clear hB3 hVo2
          refine wp_region_still_tail 13 (by kernel_rfl) (by kernel_rfl) ?_
          simp only [List.take_succ_cons, List.take_zero, List.drop_succ_cons, List.drop_zero]
          iterate 8 still_step
          still_call (Bit_s1 k (lcp k p).length _ hc31 HKb.out)
          repeat still_step
          refine wpStill_nil ?_
          go_upto_region 9 with fail
          obtain ⟨U, hU⟩ : ∃ U, (V2.setCell ⟨wc.heap.size, 5, none⟩ (.pointer (some ⟨b, 0, none⟩))).drew = U := ⟨_, rfl⟩
          rw [hU]
          have hBc : Below wc.heap.size wc U := by rw [← hU]; exact (HB3.out.setCell (p := ⟨wc.heap.size, 5, none⟩) (Nat.le_refl _) _).drew
          have hBU : Below w.heap.size w U := HB2.out.trans (hBc.mono (by omega))
          have hbox : U.heap[wc.heap.size]? = some (nodeO (lcp k p) none (.node (w.heap.size + 1) p (some v) .nil .nil) (.node b k o l r)) := by rw [← hU]; exact heap_set (W := V2) _ HVo2.out
          have hleaf : U.heap[w.heap.size + 1]? = some (nodeO p (some v) .nil .nil) := (hBc.block _ wl1).trans HLx.out
          have u0 : U.cell? ⟨ab, ao, none⟩ = some (.pointer (some ⟨b, 0, none⟩)) := (hBU.cell (p := ⟨ab, ao, none⟩) hab).trans C0.out
          have u1 : U.frozen? ⟨ab, ao, none⟩ = false := (hBU.frozen (p := ⟨ab, ao, none⟩) hab).trans F0.out
          clear hU e0 x1 l4 lf4
          have HBU := Lib.hid hBU
          have Hbox := Lib.hid hbox
          have Hleaf := Lib.hid hleaf
          clear hBU hbox hleaf hBc
          go_wp2_with fail
          go_end0
          refine ⟨⟨_, rfl⟩, w.heap.size + 1, wc.heap.size, by omega, wl1, by have h3 := (Array.getElem?_eq_some_iff.1 Hbox.out).1; simp; omega, ?_⟩
          have hh : TT.hang (w.heap.size + 1) wc.heap.size p v (.node b k o l r) = .node wc.heap.size (lcp k p) none (.node (w.heap.size + 1) p (some v) .nil .nil) (.node b k o l r) := by simp only [TT.hang, if_neg hne, if_neg Hc.out, HBit.out]; rfl
          rw [hh]
          have hn := HN.out
          refine hangP_of (Y := .node wc.heap.size (lcp k p) none (.node (w.heap.size + 1) p (some v) .nil .nil) (.node b k o l r)) HBU.out C0.out ⟨Hbox.out, ⟨Hleaf.out, trivial, trivial⟩, HI.out.below HBU.out⟩ ?_
          simp only [TT.blocks, List.nodup_cons, List.mem_cons, List.mem_append, not_or, List.append_nil, List.not_mem_nil, or_false] at hn ⊢
          obtain ⟨⟨m1, m2, m3⟩, _⟩ := hn
          refine ⟨by omega, ?_⟩
          exact ⟨by omega, m1, m2, m3⟩
        · have HBit := Lib.hid hbit
          have hkb : k.getD (lcp k p).length false = false := by
            rw [hbit] at hpart
            cases h : k.getD (lcp k p).length false
            · rfl
            · rw [h] at hpart; cases hpart
          have HKb := Lib.hid hkb
          clear hbit hkb hpart
          refine wp_region_still_tail 10 (by kernel_rfl) (by kernel_rfl) ?_
          simp only [List.take_succ_cons, List.take_zero, List.drop_succ_cons, List.drop_zero]
          iterate 5 still_step
          still_call (Bit_s1 p (lcp k p).length _ hc31 HBit.out)
          repeat still_step
          refine wpStill_nil ?_
          go_upto_region 8 with fail
          obtain ⟨V2, hV2⟩ : ∃ V2, (V.setCell ⟨wc.heap.size, 5, none⟩ (.pointer (some ⟨w.heap.size + 1, 0, none⟩))).drew = V2 := ⟨_, rfl⟩
          rw [hV2]
          have hB3 : Below wc.heap.size wc V2 := by rw [← hV2]; exact (HBV.out.setCell (p := ⟨wc.heap.size, 5, none⟩) (Nat.le_refl _) _).drew
          have hVo2 : V2.heap[wc.heap.size]? = some (nodeO (lcp k p) none .nil (.node (w.heap.size + 1) p (some v) .nil .nil)) := by rw [← hV2]; exact heap_set (W := V) _ HVo.out
          clear hV2 e0' g0' x1' l4 l5 lf4 lf5
          have e0 := (hB3.cell (p := ⟨b, 0, none⟩) (by simp; omega)).trans E0.out
          have x1 := (hB3.cell (p := ⟨bx, 1, none⟩) (by have := HXb.out.lt; simp; omega)).trans X1.out
          have l4 : V2.cell? ⟨wc.heap.size, 4, none⟩ = some (.pointer none) := cell_heap hVo2
          have lf4 : V2.frozen? ⟨wc.heap.size, 4, none⟩ = false := by simp [World.frozen?, hVo2, nodeO]
          have HB3 := Lib.hid hB3
          have HVo2 := Lib.hid hVo2
          clear hB3 hVo2
          refine wp_region_still_tail 13 (by kernel_rfl) (by kernel_rfl) ?_
          simp only [List.take_succ_cons, List.take_zero, List.drop_succ_cons, List.drop_zero]
          iterate 8 still_step
          still_call (Bit_s0 k (lcp k p).length _ hc31 HKb.out)
          repeat still_step
          refine wpStill_nil ?_
          go_upto_region 9 with fail
          obtain ⟨U, hU⟩ : ∃ U, (V2.setCell ⟨wc.heap.size, 4, none⟩ (.pointer (some ⟨b, 0, none⟩))).drew = U := ⟨_, rfl⟩
          rw [hU]
          have hBc : Below wc.heap.size wc U := by rw [← hU]; exact (HB3.out.setCell (p := ⟨wc.heap.size, 4, none⟩) (Nat.le_refl _) _).drew
          have hBU : Below w.heap.size w U := HB2.out.trans (hBc.mono (by omega))
          have hbox : U.heap[wc.heap.size]? = some (nodeO (lcp k p) none (.node b k o l r) (.node (w.heap.size + 1) p (some v) .nil .nil)) := by rw [← hU]; exact heap_set (W := V2) _ HVo2.out
          have hleaf : U.heap[w.heap.size + 1]? = some (nodeO p (some v) .nil .nil) := (hBc.block _ wl1).trans HLx.out
          have u0 : U.cell? ⟨ab, ao, none⟩ = some (.pointer (some ⟨b, 0, none⟩)) := (hBU.cell (p := ⟨ab, ao, none⟩) hab).trans C0.out
          have u1 : U.frozen? ⟨ab, ao, none⟩ = false := (hBU.frozen (p := ⟨ab, ao, none⟩) hab).trans F0.out
          clear hU e0 x1 l4 lf4
          have HBU := Lib.hid hBU
          have Hbox := Lib.hid hbox
          have Hleaf := Lib.hid hleaf
          clear hBU hbox hleaf hBc
          go_wp2_with fail
          go_end0
          refine ⟨⟨_, rfl⟩, w.heap.size + 1, wc.heap.size, by omega, wl1, by have h3 := (Array.getElem?_eq_some_iff.1 Hbox.out).1; simp; omega, ?_⟩
          have hh : TT.hang (w.heap.size + 1) wc.heap.size p v (.node b k o l r) = .node wc.heap.size (lcp k p) none (.node b k o l r) (.node (w.heap.size + 1) p (some v) .nil .nil) := by simp only [TT.hang, if_neg hne, if_neg Hc.out, HBit.out]; rfl
          rw [hh]
          have hn := HN.out
          refine hangP_of (Y := .node wc.heap.size (lcp k p) none (.node b k o l r) (.node (w.heap.size + 1) p (some v) .nil .nil)) HBU.out C0.out ⟨Hbox.out, HI.out.below HBU.out, Hleaf.out, trivial, trivial⟩ ?_
          simp only [TT.blocks, List.nodup_cons, List.mem_cons, List.mem_append, not_or, List.append_nil, List.not_mem_nil, or_false] at hn ⊢
          obtain ⟨⟨m1, m2, m3⟩, _⟩ := hn
          refine ⟨by omega, ?_⟩
          exact ⟨⟨m1, m2, m3⟩, by omega⟩
end Go.Proofs.YtbacahoihkpkpaaDoor
/- Contract: trie.Put. -/
namespace Go.Proofs.YtbacahoihkpkpaaDoor
open Go.RowKit Go.Shelf

theorem TT.hang_blocks (b1 b2 : Nat) (p : Key) (v : Int) (t : TT) : ∀ c ∈ (TT.hang b1 b2 p v t).blocks, c ∈ t.blocks ∨ c = b1 ∨ c = b2 := by
  cases t with
  | nil => intro c hc; simp [TT.hang, TT.blocks] at hc; exact .inr (.inl hc)
  | node b k o l r =>
    intro c hc
    simp only [TT.hang] at hc
    simp only [TT.blocks, List.mem_cons, List.mem_append]
    split at hc
    · simp only [TT.blocks, List.mem_cons, List.mem_append] at hc; exact .inl hc
    · split at hc
      · split at hc
        all_goals
          simp only [TT.blocks, List.mem_cons, List.mem_append, List.not_mem_nil, false_or, or_false] at hc
          rcases hc with h | h
          · exact .inr (.inl h)
          · exact .inl h
      · split at hc
        all_goals
          simp only [TT.blocks, List.mem_cons, List.mem_append, List.not_mem_nil, or_false] at hc
          rcases hc with h | h | h
          · exact .inr (.inr h)
          · first | exact .inr (.inl h) | exact .inl h
          · first | exact .inr (.inl h) | exact .inl h
theorem TT.hang_nodup {b1 b2 : Nat} {p : Key} {v : Int} {t : TT} (h : t.blocks.Nodup) (h1 : b1 ∉ t.blocks) (h2 : b2 ∉ t.blocks) (h3 : b1 ≠ b2) : (TT.hang b1 b2 p v t).blocks.Nodup := by
  cases t with
  | nil => simp [TT.hang, TT.blocks]
  | node b k o l r =>
    simp only [TT.hang]
    split
    · exact h
    · split
      · split
        · simpa [TT.blocks] using ⟨by simpa [TT.blocks] using h1, by simpa [TT.blocks] using h⟩
        · simpa [TT.blocks] using ⟨by simpa [TT.blocks] using h1, by simpa [TT.blocks] using h⟩
      · have h' : (b2 :: b1 :: (TT.node b k o l r).blocks).Nodup := List.nodup_cons.2 ⟨by simp only [List.mem_cons, not_or]; exact ⟨fun e => h3 e.symm, h2⟩, List.nodup_cons.2 ⟨h1, h⟩⟩
        split
        · have e : (TT.node b2 (lcp k p) none (.node b k o l r) (.node b1 p (some v) .nil .nil)).blocks = b2 :: ((TT.node b k o l r).blocks ++ [b1]) := by simp [TT.blocks]
          rw [e]
          refine List.Perm.nodup ?_ h'
          exact List.Perm.cons _ (List.perm_append_singleton b1 _).symm
        · have e : (TT.node b2 (lcp k p) none (.node b1 p (some v) .nil .nil) (.node b k o l r)).blocks = b2 :: b1 :: (TT.node b k o l r).blocks := by simp [TT.blocks]
          rw [e]
          exact h'
theorem TT.rsub_blocks {t X : TT} {p : Key} : ∀ c ∈ (t.rsub p X).blocks, c ∈ t.blocks ∨ c ∈ X.blocks := by
  induction t with
  | nil => exact fun c hc => .inr hc
  | node b k o l r il ir =>
    intro c hc
    simp only [TT.rsub] at hc
    simp only [TT.blocks, List.mem_cons, List.mem_append]
    split at hc
    · split at hc
      · exact .inr hc
      · split at hc
        · simp only [TT.blocks, List.mem_cons, List.mem_append] at hc
          rcases hc with h | h | h
          · exact .inl (.inl h)
          · exact .inl (.inr (.inl h))
          · rcases ir c h with h | h
            · exact .inl (.inr (.inr h))
            · exact .inr h
        · simp only [TT.blocks, List.mem_cons, List.mem_append] at hc
          rcases hc with h | h | h
          · exact .inl (.inl h)
          · rcases il c h with h | h
            · exact .inl (.inr (.inl h))
            · exact .inr h
          · exact .inl (.inr (.inr h))
    · exact .inr hc
theorem TT.rsub_nodup {t X : TT} {p : Key} (h : t.blocks.Nodup) (hX : X.blocks.Nodup) (hd : ∀ c ∈ X.blocks, c ∈ t.blocks → c ∈ (t.spot p).blocks) : (t.rsub p X).blocks.Nodup := by
  induction t with
  | nil => exact hX
  | node b k o l r il ir =>
    have hs := fun c hc h1 => hd c hc h1
    simp only [TT.blocks, List.nodup_cons, List.nodup_append, List.mem_append, not_or] at h
    obtain ⟨⟨n1, n2⟩, n3, n4, n5⟩ := h
    simp only [TT.rsub]
    simp only [TT.spot] at hd
    split
    · rename_i hk
      rw [if_pos hk] at hd
      split
      · exact hX
      · rename_i hl
        rw [if_neg hl] at hd
        split
        · rename_i hb
          rw [if_pos hb] at hd
          have hr := ir n4 (fun c hc hm => hd c hc (by simp [TT.blocks, hm]))
          have sp : ∀ c ∈ X.blocks, c ≠ b ∧ c ∉ l.blocks := fun c hc => ⟨fun e => n2 (by rw [← e]; exact TT.spot_blocks (hd c hc (by simp [TT.blocks, e]))), fun hm => n5 c hm c (TT.spot_blocks (hd c hc (by simp [TT.blocks, hm]))) rfl⟩
          simp only [TT.blocks, List.nodup_cons, List.nodup_append, List.mem_append, not_or]
          refine ⟨⟨n1, fun hm => ?_⟩, n3, hr, fun c hc c' hc' e => ?_⟩
          · rcases TT.rsub_blocks _ hm with h | h
            · exact n2 h
            · exact (sp _ h).1 rfl
          · subst e
            rcases TT.rsub_blocks _ hc' with h | h
            · exact n5 _ hc _ h rfl
            · exact (sp _ h).2 hc
        · rename_i hb
          rw [if_neg hb] at hd
          have hr := il n3 (fun c hc hm => hd c hc (by simp [TT.blocks, hm]))
          have sp : ∀ c ∈ X.blocks, c ≠ b ∧ c ∉ r.blocks := fun c hc => ⟨fun e => n1 (by rw [← e]; exact TT.spot_blocks (hd c hc (by simp [TT.blocks, e]))), fun hm => n5 c (TT.spot_blocks (hd c hc (by simp [TT.blocks, hm]))) c hm rfl⟩
          simp only [TT.blocks, List.nodup_cons, List.nodup_append, List.mem_append, not_or]
          refine ⟨⟨fun hm => ?_, n2⟩, hr, n4, fun c hc c' hc' e => ?_⟩
          · rcases TT.rsub_blocks _ hm with h | h
            · exact n1 h
            · exact (sp _ h).1 rfl
          · subst e
            rcases TT.rsub_blocks _ hc with h | h
            · exact n5 _ h _ hc' rfl
            · exact (sp _ h).2 hc'
    · exact hX
theorem TT.spot_nodup {t : TT} {p : Key} (h : t.blocks.Nodup) : (t.spot p).blocks.Nodup := by
  induction t with
  | nil => exact h
  | node b k o l r il ir =>
    simp only [TT.spot]
    have h' := h
    simp only [TT.blocks, List.nodup_cons, List.nodup_append] at h'
    repeat' split
    · exact h
    · exact ir h'.2.2.1
    · exact il h'.2.1
    · exact h
/-- the place's block is none of the spot's -/
theorem TT.place_notin {t : TT} {p : Key} {a : Addr} (h : (a.block :: t.blocks).Nodup) : (t.place p a).block ∉ (t.spot p).blocks := by
  induction t generalizing a with
  | nil => simp [TT.spot, TT.blocks]
  | node b k o l r il ir =>
    have h' := h
    simp only [TT.blocks, List.nodup_cons, List.nodup_append, List.mem_append, not_or, List.mem_cons] at h'
    simp only [TT.spot, TT.place]
    repeat' split
    · exact (List.nodup_cons.1 h).1
    · exact ir (a := ⟨b, 5, none⟩) (List.nodup_cons.2 ⟨h'.2.1.2, h'.2.2.2.1⟩)
    · exact il (a := ⟨b, 4, none⟩) (List.nodup_cons.2 ⟨h'.2.1.1, h'.2.2.1⟩)
    · exact (List.nodup_cons.1 h).1

/-- the trie behind a write at a place -/
theorem TrS.turn {w w' : World} {q : Nat} {t X : TT} {p : Key} (h : TrS w q t) (hP : HangP w w' (t.place p ⟨q, 0, none⟩) (t.spot p) X) (hX : X.blocks.Nodup) (hnew : ∀ c ∈ X.blocks, c ∈ (t.spot p).blocks ∨ w.heap.size ≤ c)
    (hbox : w'.heap[q]? = some (.cells #[(t.rsub p X).ptr, .int .i64 (t.rsub p X).rows.length, .bool true] 84 (0, 0))) (hwf : (t.rsub p X).WF) : TrS w' q (t.rsub p X) := by
  have ht := h.at.turn (p := p) h.nodup (hP.turned fun c hc => h.blt hc) rfl
  have hn := List.nodup_cons.1 h.nodup
  refine ⟨hbox, ht.2, List.nodup_cons.2 ⟨fun hm => ?_, TT.rsub_nodup hn.2 hX fun c hc hm => ?_⟩, hwf⟩
  · rcases TT.rsub_blocks _ hm with h1 | h1
    · exact hn.1 h1
    · rcases hnew _ h1 with h2 | h2
      · exact hn.1 (TT.spot_blocks h2)
      · have := h.lt; omega
  · rcases hnew _ hc with h2 | h2
    · exact h2
    · have := h.here.lt hm; omega
end Go.Proofs.YtbacahoihkpkpaaDoor
/- Contract: trie.Put (walk). -/
namespace Go.Proofs.YtbacahoihkpkpaaDoor
open Go.RowKit Go.Shelf

/-- what Put and Take leave: another trie in the same box -/
structure Went (w w' : World) (q : Nat) (t t' : TT) : Prop where
  st : TrS w' q t'
  kb : KB (q :: t.blocks) w w'
  new : ∀ c ∈ t'.blocks, c ∈ t.blocks ∨ w.heap.size ≤ c
theorem Went.refl {w w' : World} {q : Nat} {t : TT} (h : TrS w q t) (hb : Below w.heap.size w w') : Went w w' q t t := ⟨h.below hb, KB.of_below hb, fun _ hc => .inl hc⟩
/-- p has the value v, all else is as it was -/
def PutR (t t' : TT) (p : Key) (v : Int) : Prop := ∀ x u, (x, u) ∈ t'.rows ↔ x = p ∧ u = v ∨ x ≠ p ∧ (x, u) ∈ t.rows

theorem put_len_new {t : TT} (h : t.WF) {p : Key} {v : Int} (hp : p.length ≤ 32) (hn : t.get p = none) (b1 b2 : Nat) : (t.put b1 b2 p v).rows.length = t.rows.length + 1 := by
  have hno : ∀ u, (p, u) ∉ t.rows := fun u hm => by rw [(TT.get_iff h p u).2 hm] at hn; cases hn
  obtain ⟨h1, _, h3⟩ := TT.put_ok h (v := v) hp b1 b2
  obtain ⟨i1, i2⟩ := insR_ok h.rows hp hno v
  have e := ordR_ext h1.rows i1 (fun x => (h3 x.1 x.2).trans (i2 x.1 x.2).symm)
  rw [e]
  unfold insR
  have := aheadR_le t.rows p
  simp only [List.length_append, List.length_take, List.length_cons, List.length_drop]
  omega
theorem put_len_old {t : TT} (h : t.WF) {p : Key} {v u : Int} (hp : p.length ≤ 32) (hn : t.get p = some u) (b1 b2 : Nat) : (t.put b1 b2 p v).rows.length = t.rows.length := by
  obtain ⟨i, hi⟩ := List.getElem?_of_mem ((TT.get_iff h p u).1 hn)
  obtain ⟨h1, _, h3⟩ := TT.put_ok h (v := v) hp b1 b2
  obtain ⟨i1, i2⟩ := setR_ok h.rows hi v
  have e := ordR_ext h1.rows i1 (fun x => (h3 x.1 x.2).trans (i2 x.1 x.2).symm)
  rw [e, List.length_set]

/-- the box of the trie behind hang -/
theorem box_hang {w w' : World} {q n : Nat} {t X : TT} {p : Key} (hbox : w.heap[q]? = some (.cells #[t.ptr, .int .i64 n, .bool true] 84 (0, 0))) (hn : (q :: t.blocks).Nodup) (hP : HangP w w' (t.place p ⟨q, 0, none⟩) (t.spot p) X) :
    w'.heap[q]? = some (.cells #[(t.rsub p X).ptr, .int .i64 n, .bool true] 84 (0, 0)) ∧ ((t.place p ⟨q, 0, none⟩) = ⟨q, 0, none⟩ → (t.rsub p X).ptr = X.ptr) := by
  have hq : q < w.heap.size := (Array.getElem?_eq_some_iff.1 hbox).1
  have hq2 := (List.nodup_cons.1 hn).1
  have hroot : (t.place p ⟨q, 0, none⟩) = ⟨q, 0, none⟩ → (t.rsub p X).ptr = X.ptr := by
    intro e
    cases t with
    | nil => rfl
    | node b k o l r =>
      simp only [TT.place, TT.rsub] at e ⊢
      split
      · rename_i hk
        rw [if_pos hk] at e
        split
        · rfl
        · rename_i hl
          rw [if_neg hl] at e
          exfalso
          simp only [TT.blocks, List.mem_cons, List.mem_append, not_or] at hq2
          split at e
          · rcases TT.place_block (t := r) (p := p) (a := ⟨b, 5, none⟩) with h | h
            · rw [e] at h; exact hq2.1 h
            · rw [e] at h; exact hq2.2.2 h
          · rcases TT.place_block (t := l) (p := p) (a := ⟨b, 4, none⟩) with h | h
            · rw [e] at h; exact hq2.1 h
            · rw [e] at h; exact hq2.2.1 h
      · rfl
  refine ⟨?_, hroot⟩
  rcases t.place_or p ⟨q, 0, none⟩ with e | ⟨e1, _, e2⟩
  · have := hP.obj
    rw [e] at this
    rw [hroot e]
    exact this _ _ _ hbox
  · rw [e2 X, ← hbox]
    refine hP.kb.block q hq fun hm => ?_
    rcases List.mem_cons.1 hm with h | h
    · rw [← h] at e1; exact hq2 e1
    · exact hq2 (TT.spot_blocks h)
theorem KB.place {w w' : World} {q : Nat} {t X : TT} {p : Key} (hP : HangP w w' (t.place p ⟨q, 0, none⟩) (t.spot p) X) : KB (q :: t.blocks) w w' :=
  hP.kb.sub fun c hc => .inl (by
    rcases List.mem_cons.1 hc with rfl | h
    · rcases TT.place_block (t := t) (p := p) (a := ⟨q, 0, none⟩) with h | h
      · simp only at h; rw [h]; simp
      · simp [h]
    · simp [TT.spot_blocks h])

/-- behind hang of a new key, and many++ -/
theorem went_new {w w1 : World} {q : Nat} {t : TT} {p : Key} {v : Int} {b1 b2 : Nat} (h : TrS w q t) (hp : p.length ≤ 32) (hg : t.get p = none) (hP : HangP w w1 (t.place p ⟨q, 0, none⟩) (t.spot p) (TT.hang b1 b2 p v (t.spot p))) (h1 : w.heap.size ≤ b1) (h2 : w.heap.size ≤ b2) (h3 : b1 ≠ b2) :
    w1.heap[q]? = some (.cells #[(t.put b1 b2 p v).ptr, .int .i64 t.rows.length, .bool true] 84 (0, 0)) ∧ Went w (w1.setCell ⟨q, 1, none⟩ (.int .i64 (t.rows.length + 1))) q t (t.put b1 b2 p v) := by
  have hbox := (box_hang h.box h.nodup hP).1
  have hsub : ∀ c ∈ (TT.hang b1 b2 p v (t.spot p)).blocks, c ∈ (t.spot p).blocks ∨ w.heap.size ≤ c := fun c hc => by
    rcases TT.hang_blocks _ _ _ _ _ c hc with h' | rfl | rfl
    · exact .inl h'
    · exact .inr h1
    · exact .inr h2
  have hnd : (TT.hang b1 b2 p v (t.spot p)).blocks.Nodup := TT.hang_nodup (TT.spot_nodup (List.nodup_cons.1 h.nodup).2) (fun hm => by have := h.here.lt (TT.spot_blocks hm); omega) (fun hm => by have := h.here.lt (TT.spot_blocks hm); omega) h3
  have hwf := (TT.put_ok h.wf (v := v) hp b1 b2).1
  have hn := List.nodup_cons.1 h.nodup
  have hin := (h.at.turn (p := p) h.nodup (hP.turned fun c hc => h.blt hc) rfl).2
  have hqn : q ∉ (t.put b1 b2 p v).blocks := fun hm => by
    rcases TT.rsub_blocks _ hm with h' | h'
    · exact hn.1 h'
    · rcases hsub _ h' with h'' | h''
      · exact hn.1 (TT.spot_blocks h'')
      · have := h.lt; omega
  refine ⟨hbox, ⟨?_, hin.of_blocks fun c hc => heapS _ _ _ _ c (fun e => hqn (e ▸ hc)), List.nodup_cons.2 ⟨hqn, TT.rsub_nodup hn.2 hnd fun c hc hm => ?_⟩, hwf⟩, (KB.place hP).trans (KB.setCell _ _ _ _ _ (by simp)), fun c hc => ?_⟩
  · rw [put_len_new h.wf hp hg]
    exact heap_set _ hbox
  · rcases hsub _ hc with h' | h'
    · exact h'
    · have := h.here.lt hm; omega
  · rcases TT.rsub_blocks _ hc with h' | h'
    · exact .inl h'
    · rcases hsub _ h' with h'' | h''
      · exact .inl (TT.spot_blocks h'')
      · exact .inr h''
/-- behind a new value of an old key -/
theorem went_old {w w1 : World} {q : Nat} {t : TT} {p : Key} {u v : Int} (h : TrS w q t) (hp : p.length ≤ 32) (hg : t.get p = some u) (hP : HangP w w1 (t.place p ⟨q, 0, none⟩) (t.spot p) (TT.hang w.heap.size (w.heap.size + 1) p v (t.spot p))) :
    Went w w1 q t (t.put w.heap.size (w.heap.size + 1) p v) := by
  have hbox := (box_hang h.box h.nodup hP).1
  have hsub : ∀ c ∈ (TT.hang w.heap.size (w.heap.size + 1) p v (t.spot p)).blocks, c ∈ (t.spot p).blocks ∨ w.heap.size ≤ c := fun c hc => by
    rcases TT.hang_blocks _ _ _ _ _ c hc with h' | rfl | rfl
    · exact .inl h'
    · exact .inr (Nat.le_refl _)
    · exact .inr (by omega)
  have hnd : (TT.hang w.heap.size (w.heap.size + 1) p v (t.spot p)).blocks.Nodup := TT.hang_nodup (TT.spot_nodup (List.nodup_cons.1 h.nodup).2) (fun hm => by have := h.here.lt (TT.spot_blocks hm); omega) (fun hm => by have := h.here.lt (TT.spot_blocks hm); omega) (by omega)
  have hwf := (TT.put_ok h.wf (v := v) hp w.heap.size (w.heap.size + 1)).1
  refine ⟨h.turn hP hnd hsub ?_ hwf, KB.place hP, fun c hc => ?_⟩
  · rw [show (t.rsub p (TT.hang w.heap.size (w.heap.size + 1) p v (t.spot p))).rows.length = t.rows.length from put_len_old h.wf hp hg _ _]
    exact hbox
  · rcases TT.rsub_blocks _ hc with h' | h'
    · exact .inl h'
    · rcases hsub _ h' with h'' | h''
      · exact .inl (TT.spot_blocks h'')
      · exact .inr h''
theorem Went.after {w w3 w' : World} {q : Nat} {t t' : TT} (hb : Below w.heap.size w w3) (h : Went w3 w' q t t') : Went w w' q t t' :=
  ⟨h.st, KB.thenB hb h.kb, fun c hc => by rcases h.new c hc with h' | h'; exact .inl h'; exact .inr (Nat.le_trans hb.size h')⟩
end Go.Proofs.YtbacahoihkpkpaaDoor
/- Contract: trie.Put (the walk). -/
namespace Go.Proofs.YtbacahoihkpkpaaDoor
open Go.RowKit Go.Shelf

theorem TrS.cellT {w : World} {q : Nat} {t : TT} (h : TrS w q t) (p : Key) : TAt w (t.place p ⟨q, 0, none⟩) (t.spot p) := h.at.spot p
theorem TrS.placeLt {w : World} {q : Nat} {t : TT} (h : TrS w q t) (p : Key) : (t.place p ⟨q, 0, none⟩).block < w.heap.size := by
  rcases TT.place_block (t := t) (p := p) (a := ⟨q, 0, none⟩) with e | e
  · rw [e]; exact h.lt
  · exact h.here.lt e
theorem TrS.placeF {w : World} {q : Nat} {t : TT} (h : TrS w q t) (p : Key) : w.frozen? (t.place p ⟨q, 0, none⟩) = false := by
  have hin := h.here
  have hind : ∀ (s : TT) (a : Addr), s.In w → w.frozen? a = false → w.frozen? (s.place p a) = false := by
    intro s
    induction s with
    | nil => exact fun _ _ h => h
    | node b k o l r il ir =>
      intro a hs ha
      simp only [TT.place]
      repeat' split
      · exact ha
      · exact ir _ hs.2.2 (hs.f 5)
      · exact il _ hs.2.1 (hs.f 4)
      · exact ha
  exact hind t _ h.here (h.f 0)
theorem TrS.keysLen {w : World} {q : Nat} {t : TT} (h : TrS w q t) : ∀ x ∈ t.keys, x.length ≤ 32 := fun _ hx => h.wf.len hx

set_option maxHeartbeats 400000 in
theorem Put_arg (q : Nat) (t : TT) (pa pn v : Int) (w : World) (h : TrS w q t) (hr : rightB pa pn = false) :
    Calls Tryd.prog 14 #[.pointer (some ⟨q, 0, none⟩), .agg #[.int .u32 pa, .int .i64 pn], .int .i64 v] w fun e w' => e = .returned (.tuple #[.int .i64 0, .bool false, .int .i64 2]) ∧ Below w.heap.size w w' := by
  have b0 : Below w.heap.size w (w.alloc (.cells #[.int .u32 pa, .int .i64 pn] 26)) := (Below.refl _ w).alloc (Nat.le_refl _) _
  have hN := Lib.hid (none_t q t _ (h.below b0))
  have hC := Lib.hid (Check_f pa pn (w.alloc (.cells #[.int .u32 pa, .int .i64 pn] 26)) hr)
  have HB0 := Lib.hid b0
  clear h hr b0
  go_enter Tryd.func14, Tryd.ntmps14
  go_wp2_with fail
  refine wp_scope_fwd 0 rfl ?_
  go_wp2_with (first
    | (go_at_call 34; with_reducible refine hN.out.mono ?_; rintro e w' ⟨rfl, rfl⟩)
    | (go_at_call 36; with_reducible refine hC.out.mono ?_; rintro e w1 ⟨rfl, hb⟩; have HB1 := Lib.hid hb; clear hb))
  go_step3
  refine ⟨rfl, ?_⟩
  go_wp2_with fail
  rw [Exit.noGoto_ret]
  go_ret3
  exact ⟨rfl, bthen HB0.out HB1.out⟩

set_option maxHeartbeats 400000 in
theorem Put_nil (pa pn v : Int) (w : World) :
    Calls Tryd.prog 14 #[.pointer none, .agg #[.int .u32 pa, .int .i64 pn], .int .i64 v] w fun e w' => e = .returned (.tuple #[.int .i64 0, .bool false, .int .i64 1]) ∧ Below w.heap.size w w' := by
  have b0 : Below w.heap.size w (w.alloc (.cells #[.int .u32 pa, .int .i64 pn] 26)) := (Below.refl _ w).alloc (Nat.le_refl _) _
  have HB0 := Lib.hid b0
  clear b0
  go_enter Tryd.func14, Tryd.ntmps14
  go_wp2_with fail
  refine wp_scope_fwd 0 rfl ?_
  go_wp2_with (go_at_call 34; with_reducible refine (none_n _).mono ?_; rintro e w' ⟨rfl, rfl⟩)
  go_step3
  refine ⟨rfl, ?_⟩
  go_wp2_with fail
  rw [Exit.noGoto_ret]
  go_ret3
  exact ⟨rfl, HB0.out⟩

theorem hangP_val {w : World} {ab ao b b1 b2 : Nat} {p : Key} {u v : Int} {l r : TT} (c0 : w.cell? ⟨ab, ao, none⟩ = some (.pointer (some ⟨b, 0, none⟩))) (hin : (TT.node b p (some u) l r).In w) (hnd : ab ∉ (TT.node b p (some u) l r).blocks) (hn2 : (TT.node b p (some u) l r).blocks.Nodup) :
    HangP w (w.setCell ⟨b, 2, none⟩ (.int .i64 v)) ⟨ab, ao, none⟩ (.node b p (some u) l r) (TT.hang b1 b2 p v (.node b p (some u) l r)) := by
  have hab := World.block_lt_of_cell? w _ c0
  simp only at hab
  obtain ⟨i1, i2, i3⟩ := hin
  simp only [TT.blocks, List.nodup_cons, List.mem_cons, List.mem_append, not_or] at hnd hn2
  obtain ⟨hn1, hn2', hn3⟩ := hnd
  obtain ⟨⟨hn4, hn5⟩, _⟩ := hn2
  have hoth : ∀ c, c ≠ b → (w.setCell ⟨b, 2, none⟩ (.int .i64 v)).heap[c]? = w.heap[c]? := fun c hc => heapS _ _ _ _ c hc
  simp only [TT.hang, if_true]
  refine ⟨⟨rfl, rfl, rfl, by simp, fun i hi hm => ?_⟩, ⟨heap_set _ i1, i2.of_blocks fun c hc => hoth c (fun e => hn4 (e ▸ hc)), i3.of_blocks fun c hc => hoth c (fun e => hn5 (e ▸ hc))⟩, ?_, fun cs tt fz h => ?_⟩
  · simp only [TT.blocks, List.mem_cons, not_or] at hm
    exact hoth i hm.2.1
  · rw [World.cell?_of_block (w := w) (a := ⟨ab, ao, none⟩) (hoth ab hn1)]
    exact c0
  · have hcs : cs[ao]? = some (.pointer (some ⟨b, 0, none⟩)) := by rw [← cell_heap h]; exact c0
    have e : cs.setIfInBounds ao (TT.node b p (some v) l r).ptr = cs := setIfInBounds_self hcs
    exact (hoth ab hn1).trans (by rw [e]; exact h)

set_option maxRecDepth 100000 in
set_option maxHeartbeats 2000000 in
theorem Put_old (q : Nat) (t : TT) (p : Key) (u v : Int) (w : World) (h : TrS w q t) (hR : RelsAt w) (hp : p.length ≤ 32) (hg : t.get p = some u) :
    Calls Tryd.prog 14 #[.pointer (some ⟨q, 0, none⟩), .agg #[.int .u32 (ka p), .int .i64 p.length], .int .i64 v] w fun e w' => e = .returned (.tuple #[.int .i64 u, .bool true, .int .i64 0]) ∧ ∃ t', Went w w' q t t' ∧ PutR t t' p v := by
  have b0 : Below w.heap.size w (w.alloc (.cells #[.int .u32 (ka p), .int .i64 p.length] 26)) := (Below.refl _ w).alloc (Nat.le_refl _) _
  have hN := Lib.hid (none_t q t _ (h.below b0))
  have hC := Lib.hid (Check_t (ka p) p.length (w.alloc (.cells #[.int .u32 (ka p), .int .i64 p.length] 26)) (ka_right hp))
  have hpb : PBox (w.alloc (.cells #[.int .u32 (ka p), .int .i64 p.length] 26)) w.heap.size (ka p) p.length := PBox.new w _ _
  have HPB := Lib.hid hpb
  have HB0 := Lib.hid b0
  have H := Lib.hid h
  have HR := Lib.hid hR
  clear h hR b0 hpb
  go_enter Tryd.func14, Tryd.ntmps14
  go_wp2_with fail
  go_step3
  go_wp2_with (first
    | (go_at_call 34; with_reducible refine hN.out.mono ?_; rintro e w' ⟨rfl, rfl⟩)
    | (go_at_call 36; with_reducible refine hC.out.mono ?_; rintro e w1 ⟨rfl, hb⟩; have HB1 := Lib.hid (bthen HB0.out hb); have hpb1 := HPB.out.below hb; have d0 := hpb1.c0; have d1 := hpb1.c1; have HPB1 := Lib.hid hpb1; clear hb hpb1)
    | fail)
  have hst1 := H.out.below HB1.out
  go_upto_region 7 with (go_at_call 38; refine (place_any q p t hp hst1.keysLen w1 hst1.at hst1.lt (HR.out.below HB1.out)).mono ?_; rintro e w3 ⟨rfl, hb3⟩; have HB3 := Lib.hid hb3; clear hb3)
  have hst := hst1.below HB3.out
  have hpb3 := HPB1.out.below HB3.out
  clear hst1 d0 d1
  have hsp : ∃ b l r, t.spot p = .node b p (some u) l r := by
    rw [TT.get_spot] at hg
    cases hs : t.spot p with
    | nil => rw [hs] at hg; cases hg
    | node b k o l r =>
      rw [hs] at hg
      simp only at hg
      split at hg
      · rename_i e; subst e; subst hg; exact ⟨b, l, r, rfl⟩
      · cases hg
  obtain ⟨b, l, r, hsp⟩ := hsp
  have hT := hst.cellT p
  have hni := TT.place_notin (t := t) (p := p) (a := ⟨q, 0, none⟩) hst.nodup
  have hnd := TT.spot_nodup (p := p) (List.nodup_cons.1 hst.nodup).2
  have hsn : (t.place p ⟨q, 0, none⟩).spot = none := TT.place_path rfl
  obtain ⟨⟨ab, ao, as1⟩, ha⟩ : ∃ a, t.place p ⟨q, 0, none⟩ = a := ⟨_, rfl⟩
  rw [ha] at hT hni hsn ⊢
  simp only at hsn
  subst hsn
  rw [hsp] at hT hni hnd
  have ca := hT.1
  have n0 := hT.2.c0
  have n1 := hT.2.c1
  have n2 := hT.2.c2
  have n3 := hT.2.c3
  have nf := hT.2.f 2
  have d0 := hpb3.c0
  have d1 := hpb3.c1
  simp only [TT.ptr, Option.isSome_some, Option.getD_some] at ca n2 n3
  have HT := Lib.hid hT
  have HNi := Lib.hid hni
  have HNd := Lib.hid hnd
  have HSt := Lib.hid hst
  have HA := Lib.hid ha
  have HSp := Lib.hid hsp
  have HG := Lib.hid hg
  clear hT hni hnd hst hpb3 ha hsp hg
  go_wp2_with fail
  go_quiet (fail)
  go_wp2_with fail
  rw [Exit.noGoto_ret]
  go_ret3
  refine ⟨rfl, ?_⟩
  have hst4 : TrS (w3.drewN nq) q t := HSt.out.below (below_drewN (Below.refl _ _) _)
  have hP : HangP (w3.drewN nq) ((w3.drewN nq).setCell ⟨b, 2, none⟩ (.int .i64 v)) (t.place p ⟨q, 0, none⟩) (t.spot p) (TT.hang (w3.drewN nq).heap.size ((w3.drewN nq).heap.size + 1) p v (t.spot p)) := by
    rw [HA.out, HSp.out]
    exact hangP_val (w := w3.drewN nq) HT.out.1 (hst4.cellT p |> fun h => by rw [HSp.out] at h; exact h.2) HNi.out HNd.out
  refine ⟨_, (went_old hst4 hp HG.out hP).after ?_, (TT.put_ok HSt.out.wf hp _ _).2.2⟩
  exact below_drewN (bthen HB1.out HB3.out) _
end Go.Proofs.YtbacahoihkpkpaaDoor
/- Contract: trie.Put (a new key). Printed by gen_t9.py. -/
namespace Go.Proofs.YtbacahoihkpkpaaDoor
open Go.RowKit Go.Shelf

theorem TT.spot_keys {t : TT} {p : Key} {b : Nat} {k : Key} {o : Option Int} {l r : TT} (h : t.spot p = .node b k o l r) : k ∈ t.keys := by
  induction t with
  | nil => simp [TT.spot] at h
  | node b' k' o' l' r' il ir =>
    simp only [TT.spot] at h
    simp only [TT.keys, List.mem_cons, List.mem_append]
    repeat' split at h
    · cases h; exact .inl rfl
    · exact .inr (.inr (ir h))
    · exact .inr (.inl (il h))
    · cases h; exact .inl rfl

set_option maxRecDepth 100000 in
set_option maxHeartbeats 4000000 in
theorem Put_long (q : Nat) (t : TT) (p : Key) (v : Int) (w : World) (h : TrS w q t) (hR : RelsAt w) (hp : p.length ≤ 32) (hg : t.get p = none) (hL : 512 ≤ t.rows.length) :
    Calls Tryd.prog 14 #[.pointer (some ⟨q, 0, none⟩), .agg #[.int .u32 (ka p), .int .i64 p.length], .int .i64 v] w fun e w' => e = .returned (.tuple #[.int .i64 0, .bool false, .int .i64 3]) ∧ Below w.heap.size w w' := by
  have b0 : Below w.heap.size w (w.alloc (.cells #[.int .u32 (ka p), .int .i64 p.length] 26)) := (Below.refl _ w).alloc (Nat.le_refl _) _
  have hN := Lib.hid (none_t q t _ (h.below b0))
  have hC := Lib.hid (Check_t (ka p) p.length (w.alloc (.cells #[.int .u32 (ka p), .int .i64 p.length] 26)) (ka_right hp))
  have hpb : PBox (w.alloc (.cells #[.int .u32 (ka p), .int .i64 p.length] 26)) w.heap.size (ka p) p.length := PBox.new w _ _
  have HPB := Lib.hid hpb
  have HB0 := Lib.hid b0
  have H := Lib.hid h
  have HR := Lib.hid hR
  clear h hR b0 hpb
  go_enter Tryd.func14, Tryd.ntmps14
  go_wp2_with fail
  refine wp_scope_fwd 0 rfl ?_
  go_wp2_with (first
    | (go_at_call 34; with_reducible refine hN.out.mono ?_; rintro e w' ⟨rfl, rfl⟩)
    | (go_at_call 36; with_reducible refine hC.out.mono ?_; rintro e w1 ⟨rfl, hb⟩; have HB1 := Lib.hid (bthen HB0.out hb); have hpb1 := HPB.out.below hb; have d0 := hpb1.c0; have d1 := hpb1.c1; have HPB1 := Lib.hid hpb1; clear hb hpb1)
    | fail)
  have hst1 := H.out.below HB1.out
  go_upto_region 7 with (go_at_call 38; refine (place_any q p t hp hst1.keysLen w1 hst1.at hst1.lt (HR.out.below HB1.out)).mono ?_; rintro e w3 ⟨rfl, hb3⟩; have HB3 := Lib.hid hb3; clear hb3)
  have hst := hst1.below HB3.out
  have hpb3 := HPB1.out.below HB3.out
  clear hst1 d0 d1
  have hT := hst.cellT p
  have hni := TT.place_notin (t := t) (p := p) (a := ⟨q, 0, none⟩) hst.nodup
  have hnd := TT.spot_nodup (p := p) (List.nodup_cons.1 hst.nodup).2
  have hpf := hst.placeF p
  have hsn : (t.place p ⟨q, 0, none⟩).spot = none := TT.place_path rfl
  have htop : ∀ b k o l r, t.spot p = TT.node b k o l r → (k = p ∨ ¬ k <+: p) ∧ k ∈ t.keys := fun b k o l r e => ⟨TT.spot_top e, TT.spot_keys e⟩
  have hm1 := hst.c1
  obtain ⟨⟨ab, ao, as1⟩, ha⟩ : ∃ a, t.place p ⟨q, 0, none⟩ = a := ⟨_, rfl⟩
  obtain ⟨X, hX⟩ : ∃ X, t.spot p = X := ⟨_, rfl⟩
  rw [TT.get_spot] at hg
  rw [ha] at hT hni hsn hpf ⊢
  simp only at hsn
  subst hsn
  rw [hX] at hT hni hnd htop hg
  obtain ⟨P, hPp⟩ : ∃ P, X.ptr = P := ⟨_, rfl⟩
  have ca := hT.1
  rw [hPp] at ca
  have HPp := Lib.hid hPp
  clear hPp
  have d0 := hpb3.c0
  have d1 := hpb3.c1
  have HT := Lib.hid hT
  have HNi := Lib.hid hni
  have HNd := Lib.hid hnd
  have HSt := Lib.hid hst
  have HA := Lib.hid ha
  have HX := Lib.hid hX
  have HPF := Lib.hid hpf
  have HTop := Lib.hid htop
  have HG := Lib.hid hg
  have HPb := Lib.hid hpb3
  clear hT hni hnd hst hpb3 ha hX hpf htop hg
  go_upto_region 8 with fail
  go_cut [37] (fun s wx => s = .bool false ∧ ∃ n, wx = w3.drewN n)
  case first => as_aux_lemma =>
    cases X with
    | nil =>
      obtain rfl : P = .pointer none := HPp.out.symm
      go_quiet (fail)
      go_wp2_with fail
      go_meet
      exact ⟨rfl, _, rfl⟩
    | node b k o l r =>
      have n0 := HT.out.2.c0
      have n1 := HT.out.2.c1
      have n3 := HT.out.2.c3
      obtain rfl : P = .pointer (some ⟨b, 0, none⟩) := HPp.out.symm
      obtain ⟨ht, hkm⟩ := HTop.out b k o l r rfl
      have hk32 := HSt.out.keysLen k hkm
      by_cases hkp : k = p
      · subst hkp
        have ho : o = none := by have := HG.out; simpa using this
        subst ho
        simp only [Option.isSome_none] at n3
        clear ht
        go_quiet (fail)
        go_wp2_with fail
        go_meet
        exact ⟨rfl, _, rfl⟩
      · rcases neq_cases hk32 hkp with h1 | ⟨e1, h1, h2⟩
        · clear ht
          go_quiet (fail)
          go_wp2_with fail
          go_meet
          exact ⟨rfl, _, rfl⟩
        · clear ht
          rw [e1] at n0
          go_quiet (fail)
          go_wp2_with fail
          go_meet
          exact ⟨rfl, _, rfl⟩
  case rest =>
    obtain ⟨rfl, nq, rfl⟩ := hcut
    have hmw : (w3.drewN nq).cell? ⟨q, 1, none⟩ = some (.int .i64 t.rows.length) := hm1
    have e0 : (w3.drewN nq).cell? ⟨w.heap.size, 0, none⟩ = some (.int .u32 (ka p)) := d0
    have e1 : (w3.drewN nq).cell? ⟨w.heap.size, 1, none⟩ = some (.int .i64 p.length) := d1
    have hst4 : TrS (w3.drewN nq) q t := HSt.out.below (below_drewN (Below.refl _ _) _)
    have hT4 : TAt (w3.drewN nq) ⟨ab, ao, none⟩ X := HT.out.below (by have := World.block_lt_of_cell? w3 _ ca; simpa using this) rfl (below_drewN (Below.refl _ _) _)
    have hF4 : (w3.drewN nq).frozen? ⟨ab, ao, none⟩ = false := HPF.out
    have hB4 : Below w.heap.size w (w3.drewN nq) := below_drewN (bthen HB1.out HB3.out) _
    generalize w3.drewN nq = w4 at *
    clear ca d0 d1 hm1
    have HSt4 := Lib.hid hst4
    have HT4 := Lib.hid hT4
    have HF4 := Lib.hid hF4
    have HB4 := Lib.hid hB4
    clear hst4 hT4 hF4 hB4
    have t1 : decide ((512 : Int) ≤ (t.rows.length : Int)) = true := by simp; omega
    have t2 : decide (512 ≤ t.rows.length) = true := by simp [hL]
    go_wp2_with fail
    go_step3
    refine ⟨rfl, ?_⟩
    go_wp2_with fail
    rw [Exit.noGoto_ret]
    go_ret3
    exact ⟨rfl, HB4.out⟩

set_option maxRecDepth 100000 in
set_option maxHeartbeats 4000000 in
theorem Put_new (q : Nat) (t : TT) (p : Key) (v : Int) (w : World) (h : TrS w q t) (hR : RelsAt w) (hp : p.length ≤ 32) (hg : t.get p = none) (hL : t.rows.length < 512) :
    Calls Tryd.prog 14 #[.pointer (some ⟨q, 0, none⟩), .agg #[.int .u32 (ka p), .int .i64 p.length], .int .i64 v] w fun e w' => e = .returned (.tuple #[.int .i64 0, .bool false, .int .i64 0]) ∧ ∃ t', Went w w' q t t' ∧ PutR t t' p v := by
  have HG0 := Lib.hid hg
  have b0 : Below w.heap.size w (w.alloc (.cells #[.int .u32 (ka p), .int .i64 p.length] 26)) := (Below.refl _ w).alloc (Nat.le_refl _) _
  have hN := Lib.hid (none_t q t _ (h.below b0))
  have hC := Lib.hid (Check_t (ka p) p.length (w.alloc (.cells #[.int .u32 (ka p), .int .i64 p.length] 26)) (ka_right hp))
  have hpb : PBox (w.alloc (.cells #[.int .u32 (ka p), .int .i64 p.length] 26)) w.heap.size (ka p) p.length := PBox.new w _ _
  have HPB := Lib.hid hpb
  have HB0 := Lib.hid b0
  have H := Lib.hid h
  have HR := Lib.hid hR
  clear h hR b0 hpb
  go_enter Tryd.func14, Tryd.ntmps14
  go_wp2_with fail
  go_step3
  go_wp2_with (first
    | (go_at_call 34; with_reducible refine hN.out.mono ?_; rintro e w' ⟨rfl, rfl⟩)
    | (go_at_call 36; with_reducible refine hC.out.mono ?_; rintro e w1 ⟨rfl, hb⟩; have HB1 := Lib.hid (bthen HB0.out hb); have hpb1 := HPB.out.below hb; have d0 := hpb1.c0; have d1 := hpb1.c1; have HPB1 := Lib.hid hpb1; clear hb hpb1)
    | fail)
  have hst1 := H.out.below HB1.out
  go_upto_region 7 with (go_at_call 38; refine (place_any q p t hp hst1.keysLen w1 hst1.at hst1.lt (HR.out.below HB1.out)).mono ?_; rintro e w3 ⟨rfl, hb3⟩; have HB3 := Lib.hid hb3; clear hb3)
  have hst := hst1.below HB3.out
  have hpb3 := HPB1.out.below HB3.out
  clear hst1 d0 d1
  have hT := hst.cellT p
  have hni := TT.place_notin (t := t) (p := p) (a := ⟨q, 0, none⟩) hst.nodup
  have hnd := TT.spot_nodup (p := p) (List.nodup_cons.1 hst.nodup).2
  have hpf := hst.placeF p
  have hsn : (t.place p ⟨q, 0, none⟩).spot = none := TT.place_path rfl
  have htop : ∀ b k o l r, t.spot p = TT.node b k o l r → (k = p ∨ ¬ k <+: p) ∧ k ∈ t.keys := fun b k o l r e => ⟨TT.spot_top e, TT.spot_keys e⟩
  have hm1 := hst.c1
  obtain ⟨⟨ab, ao, as1⟩, ha⟩ : ∃ a, t.place p ⟨q, 0, none⟩ = a := ⟨_, rfl⟩
  obtain ⟨X, hX⟩ : ∃ X, t.spot p = X := ⟨_, rfl⟩
  rw [TT.get_spot] at hg
  rw [ha] at hT hni hsn hpf ⊢
  simp only at hsn
  subst hsn
  rw [hX] at hT hni hnd htop hg
  obtain ⟨P, hPp⟩ : ∃ P, X.ptr = P := ⟨_, rfl⟩
  have ca := hT.1
  rw [hPp] at ca
  have HPp := Lib.hid hPp
  clear hPp
  have d0 := hpb3.c0
  have d1 := hpb3.c1
  have HT := Lib.hid hT
  have HNi := Lib.hid hni
  have HNd := Lib.hid hnd
  have HSt := Lib.hid hst
  have HA := Lib.hid ha
  have HX := Lib.hid hX
  have HPF := Lib.hid hpf
  have HTop := Lib.hid htop
  have HG := Lib.hid hg
  have HPb := Lib.hid hpb3
  clear hT hni hnd hst hpb3 ha hX hpf htop hg
  go_upto_region 8 with fail
  go_cut [37] (fun s wx => s = .bool false ∧ ∃ n, wx = w3.drewN n)
  case first => as_aux_lemma =>
    cases X with
    | nil =>
      obtain rfl : P = .pointer none := HPp.out.symm
      go_quiet (fail)
      go_wp2_with fail
      go_meet
      exact ⟨rfl, _, rfl⟩
    | node b k o l r =>
      have n0 := HT.out.2.c0
      have n1 := HT.out.2.c1
      have n3 := HT.out.2.c3
      obtain rfl : P = .pointer (some ⟨b, 0, none⟩) := HPp.out.symm
      obtain ⟨ht, hkm⟩ := HTop.out b k o l r rfl
      have hk32 := HSt.out.keysLen k hkm
      by_cases hkp : k = p
      · subst hkp
        have ho : o = none := by have := HG.out; simpa using this
        subst ho
        simp only [Option.isSome_none] at n3
        clear ht
        go_quiet (fail)
        go_wp2_with fail
        go_meet
        exact ⟨rfl, _, rfl⟩
      · rcases neq_cases hk32 hkp with h1 | ⟨e1, h1, h2⟩
        · clear ht
          go_quiet (fail)
          go_wp2_with fail
          go_meet
          exact ⟨rfl, _, rfl⟩
        · clear ht
          rw [e1] at n0
          go_quiet (fail)
          go_wp2_with fail
          go_meet
          exact ⟨rfl, _, rfl⟩
  case rest =>
    obtain ⟨rfl, nq, rfl⟩ := hcut
    have hmw : (w3.drewN nq).cell? ⟨q, 1, none⟩ = some (.int .i64 t.rows.length) := hm1
    have e0 : (w3.drewN nq).cell? ⟨w.heap.size, 0, none⟩ = some (.int .u32 (ka p)) := d0
    have e1 : (w3.drewN nq).cell? ⟨w.heap.size, 1, none⟩ = some (.int .i64 p.length) := d1
    have hst4 : TrS (w3.drewN nq) q t := HSt.out.below (below_drewN (Below.refl _ _) _)
    have hT4 : TAt (w3.drewN nq) ⟨ab, ao, none⟩ X := HT.out.below (by have := World.block_lt_of_cell? w3 _ ca; simpa using this) rfl (below_drewN (Below.refl _ _) _)
    have hF4 : (w3.drewN nq).frozen? ⟨ab, ao, none⟩ = false := HPF.out
    have hB4 : Below w.heap.size w (w3.drewN nq) := below_drewN (bthen HB1.out HB3.out) _
    generalize w3.drewN nq = w4 at *
    clear ca d0 d1 hm1
    have HSt4 := Lib.hid hst4
    have HT4 := Lib.hid hT4
    have HF4 := Lib.hid hF4
    have HB4 := Lib.hid hB4
    clear hst4 hT4 hF4 hB4
    have t1 : decide ((512 : Int) ≤ (t.rows.length : Int)) = false := by simp; omega
    have t2 : decide (512 ≤ t.rows.length) = false := by simp; omega
    have hnn : (ab :: X.blocks).Nodup := List.nodup_cons.2 ⟨HNi.out, HNd.out⟩
    have hang : Calls Tryd.prog 39 #[.pointer (some ⟨ab, ao, none⟩), .agg #[.int .u32 (ka p), .int .i64 p.length], .int .i64 v] w4 fun e w' => (∃ u, e = .returned u) ∧ ∃ b1 b2, w4.heap.size ≤ b1 ∧ w4.heap.size ≤ b2 ∧ b1 ≠ b2 ∧ HangP w4 w' ⟨ab, ao, none⟩ X (TT.hang b1 b2 p v X) := by
      cases X with
      | nil => exact (hang_nil ab ao p v w4 HT4.out.1 HF4.out).mono fun e w' ⟨he, b1, h1, h2, h3⟩ => ⟨he, b1, b1 + 1, h1, by omega, by omega, h3 _⟩
      | node b k o l r =>
        obtain ⟨ht, hkm⟩ := HTop.out b k o l r rfl
        have hk32 := HSt.out.keysLen k hkm
        by_cases hkp : k = p
        · subst hkp
          exact (hang_same ab ao b k v o l r w4 HT4.out.1 HT4.out.2 hnn).mono fun e w' ⟨he, h3⟩ => ⟨he, w4.heap.size, w4.heap.size + 1, by omega, by omega, by omega, h3 _ _⟩
        · have hnp : ¬ k <+: p := by rcases ht with h | h; exact absurd h hkp; exact h
          exact (hang_part ab ao b k p v o l r w4 hk32 hp hnp HT4.out.1 HF4.out HT4.out.2 hnn).mono fun e w' ⟨he, b1, b2, h1, h2, h3, h4⟩ => ⟨he, b1, b2, h1, by omega, by omega, h4⟩
    have HHang := Lib.hid hang
    clear hang hnn
    go_upto_region 14 with (go_at_call 39; with_reducible refine HHang.out.mono ?_; rintro e w5 ⟨⟨u, rfl⟩, b1, b2, h1, h2, h3, hP⟩)
    rw [← HA.out, ← HX.out] at hP
    obtain ⟨hbox, hW⟩ := went_new HSt4.out hp HG0.out hP h1 h2 h3
    have g1 : w5.cell? ⟨q, 1, none⟩ = some (.int .i64 t.rows.length) := cell_heap hbox
    have g2 : w5.frozen? ⟨q, 1, none⟩ = false := by simp [World.frozen?, hbox]
    have HW := Lib.hid hW
    clear hP hbox hW hmw e0 e1 h1 h2 h3
    go_wp2_with fail
    rw [Exit.noGoto_ret]
    go_ret3
    exact ⟨rfl, _, HW.out.after HB4.out, (TT.put_ok HSt4.out.wf hp _ _).2.2⟩
end Go.Proofs.YtbacahoihkpkpaaDoor
