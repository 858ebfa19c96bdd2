/- Contract: Hear, where it is not refused. -/
import Derived.Test.YtahkhecfnimdbaaDoorK4
namespace Go.Proofs.YtahkhecfnimdbaaDoor
open Go.RowKit

/-- only the blocks p and m may have changed, and there may be more -/
structure Kp (p m : Nat) (w w' : World) : Prop where
  os : w'.os = w.os
  tape : w'.tape = w.tape
  output : w'.output = w.output
  size : w.heap.size ≤ w'.heap.size
  block : ∀ i, i < w.heap.size → i ≠ p → i ≠ m → w'.heap[i]? = w.heap[i]?
theorem Kp.refl (p m : Nat) (w : World) : Kp p m w w := ⟨rfl, rfl, rfl, Nat.le_refl _, fun _ _ _ _ => rfl⟩
theorem Kp.trans {p m : Nat} {a b c : World} (h : Kp p m a b) (k : Kp p m b c) : Kp p m a c :=
  ⟨k.os.trans h.os, k.tape.trans h.tape, k.output.trans h.output, Nat.le_trans h.size k.size, fun i hi h1 h2 => (k.block i (Nat.lt_of_lt_of_le hi h.size) h1 h2).trans (h.block i hi h1 h2)⟩
theorem Kp.of_below {p m : Nat} {w w' : World} (h : Below w.heap.size w w') : Kp p m w w' := ⟨h.os, h.tape, h.output, h.size, fun i hi _ _ => h.block i hi⟩
theorem Kp.of_grown {p m : Nat} {w w' : World} (h : w.grownBy w' (some m)) : Kp p m w w' := ⟨h.os, h.tape, h.output, h.size, fun i hi _ h2 => h.block i hi (fun e => h2 (Option.some.inj e))⟩
theorem Kp.setCell (p m : Nat) (w : World) (o : Nat) (v : Value) : Kp p m w (w.setCell ⟨p, o, none⟩ v) :=
  ⟨rfl, rfl, rfl, by simp [World.setCell], fun i _ h1 _ => Below.heap_setCell w _ v i h1⟩
theorem Kp.cell {p m : Nat} {w w' : World} (h : Kp p m w w') {a : Addr} {v : Value} (hc : w.cell? a = some v) (h1 : a.block ≠ p) (h2 : a.block ≠ m) : w'.cell? a = some v := by
  have := h.block _ (lt_cell hc) h1 h2
  unfold World.cell? at hc ⊢
  rw [this]
  exact hc

theorem NS.setNow {W : World} {p m : Nat} {T : List Rec} {now lost : Int} (h : NS W p m T now lost) (nw : Int) : NS (W.setCell ⟨p, 1, none⟩ (.int .i64 nw)) p m T nw lost := by
  obtain ⟨D, ho, ht⟩ := h.map
  refine ⟨?_, ⟨D, ho.setCell (a := ⟨p, 1, none⟩) (fun e => h.ne e.symm) _, ht⟩, h.wf⟩
  have := heap_setCell_same W p 1 _ _ (.int .i64 nw) h.box
  simpa using this
theorem NS.setLost {W : World} {p m : Nat} {T : List Rec} {now lost : Int} (h : NS W p m T now lost) (nw : Int) : NS (W.setCell ⟨p, 2, none⟩ (.int .i64 nw)) p m T now nw := by
  obtain ⟨D, ho, ht⟩ := h.map
  refine ⟨?_, ⟨D, ho.setCell (a := ⟨p, 2, none⟩) (fun e => h.ne e.symm) _, ht⟩, h.wf⟩
  have := heap_setCell_same W p 2 _ _ (.int .i64 nw) h.box
  simpa using this

set_option maxRecDepth 100000 in
set_option maxHeartbeats 4000000 in
theorem Hear_long (p m : Nat) (T : List Rec) (now lost f a nw bad : Int) (w : World) (h : NS w p m T now lost) (hF : FB w) (a0 : 0 ≤ a) (a1 : a < 4294967296) (hB : argB f a bad = true) (hT : now ≤ nw ∧ nw ≤ 4611686018427387904) (hN : hasR T f a = false) (hL : 64 ≤ T.length) (l0 : 0 ≤ lost) (l1 : lost ≤ 2147483647) :
    Calls Tryd.prog 11 #[.pointer (some ⟨p, 0, none⟩), .int .i64 f, .int .u32 a, .int .i64 nw, .int .i64 bad] w fun e w' => e = .returned (.int .i64 3) ∧ NS w' p m T nw (addC lost 1) ∧ Kp p m w w' := by
  have g0 := hF.c0
  have g1 := hF.c1
  have lt0 : 0 < w.heap.size := lt_cell g0
  have H := Lib.hid h
  have hplt := h.plt
  clear h hF
  obtain ⟨b1, b2, b3, b4⟩ := argB_iff.1 hB
  clear hB
  have t1 : decide (f < 0) = false := by simp; omega
  have t2 : decide (15 < f) = false := by simp; omega
  have t4 : decide (bad < 0) = false := by simp; omega
  have hk : Hid (KB f a) := Lib.hid ⟨⟨by omega, by omega⟩, by omega, by omega⟩
  clear b1 b2 b4
  have t5 : decide (nw < now) = false := by simp; omega
  have t6 : decide (4611686018427387904 < nw) = false := by simp; omega
  clear hT
  go_enter Tryd.func11, Tryd.ntmps11
  go_wp2_with fail
  refine wp_scope_fwd 0 rfl ?_
  go_wp2_with (first | (go_at_call 26; refine (none_t _ _ _ _ _ _ (H.out.below (below_k _ _))).mono ?_; rintro e w' ⟨rfl, rfl⟩) | (go_at_call 27; refine (Kind_any _ _ a0 a1).mono ?_; rintro e w1 ⟨rfl, hb1⟩; have hq := (below_k _ _).trans (hb1.mono (below_k _ _).size); have j1 := (H.out.below hq).c1; have jf := (H.out.below hq).f 1; have q0 := cell_below (v := .int .i64 f) (a := ⟨w.heap.size, 0, none⟩) hb1 (by simp [go_sem]); have q1 := cell_below (v := .int .u32 a) (a := ⟨w.heap.size, 1, none⟩) hb1 (by simp [go_sem]); clear hb1))
  have n2 := (H.out.below hq).setNow nw
  have kp : Hid (Kp p m w (w1.setCell ⟨p, 1, none⟩ (.int .i64 nw))) := Lib.hid ((Kp.of_below hq).trans (Kp.setCell p m w1 1 _))
  have e0 : (w1.setCell ⟨p, 1, none⟩ (.int .i64 nw)).cell? ⟨w.heap.size, 0, none⟩ = some (.int .i64 f) := (Kp.setCell p w1.heap.size w1 1 _).cell q0 (by simp; omega) (by have := lt_cell q0; simp at this ⊢; omega)
  have e1 : (w1.setCell ⟨p, 1, none⟩ (.int .i64 nw)).cell? ⟨w.heap.size, 1, none⟩ = some (.int .u32 a) := (Kp.setCell p w1.heap.size w1 1 _).cell q1 (by simp; omega) (by have := lt_cell q0; simp at this ⊢; omega)
  have s0 : w.heap.size < (w1.setCell ⟨p, 1, none⟩ (.int .i64 nw)).heap.size := lt_cell e0
  generalize w1.setCell ⟨p, 1, none⟩ (.int .i64 nw) = W2 at *
  clear q0 q1 hq j1 jf g0 g1
  have d0 := n2.c0
  have hlk1 := (n2.below ((Below.refl _ W2).drew)).look f a hk.out
  have hlk2 := (n2.below (((Below.refl _ W2).alloc (Nat.le_refl _) (Obj.cells #[Value.int IntKind.i64 0, Value.int IntKind.u32 0, Value.int IntKind.i64 0, Value.int IntKind.i64 0, Value.int IntKind.i64 0] 71)).drew)).look f a hk.out
  have hp2 := n2.plt
  have N2 := Lib.hid n2
  clear n2
  rw [hN] at hlk1 hlk2
  generalize hg : getR T f a = g at *
  have Hg := Lib.hid hg
  clear hg
  simp only [recV, keyV] at hlk1 hlk2
  go_region
  all_goals
    clear hlk1 hlk2
    have n3 := N2.out.below (((Below.refl _ W2).alloc (Nat.le_refl _) (Obj.cells #[Value.int IntKind.i64 g.face, Value.int IntKind.u32 g.addr, Value.int IntKind.i64 g.last, Value.int IntKind.i64 g.good, Value.int IntKind.i64 g.bad] 71)).drew)
    have kp3 := Lib.hid (kp.out.trans (Kp.of_below (p := p) (m := m) (((Below.refl _ W2).alloc (Nat.le_refl _) (Obj.cells #[Value.int IntKind.i64 g.face, Value.int IntKind.u32 g.addr, Value.int IntKind.i64 g.last, Value.int IntKind.i64 g.good, Value.int IntKind.i64 g.bad] 71)).drew)))
    have i0 := cell_below (((Below.refl _ W2).alloc (Nat.le_refl _) (Obj.cells #[Value.int IntKind.i64 g.face, Value.int IntKind.u32 g.addr, Value.int IntKind.i64 g.last, Value.int IntKind.i64 g.good, Value.int IntKind.i64 g.bad] 71)).drew) e0
    have i1 := cell_below (((Below.refl _ W2).alloc (Nat.le_refl _) (Obj.cells #[Value.int IntKind.i64 g.face, Value.int IntKind.u32 g.addr, Value.int IntKind.i64 g.last, Value.int IntKind.i64 g.good, Value.int IntKind.i64 g.bad] 71)).drew) e1
    generalize (W2.alloc (Obj.cells #[Value.int IntKind.i64 g.face, Value.int IntKind.u32 g.addr, Value.int IntKind.i64 g.last, Value.int IntKind.i64 g.good, Value.int IntKind.i64 g.bad] 71)).drew = W3 at *
    clear e0 e1 s0 d0 hp2
    have d0 := n3.c0
    have d2 := n3.c2
    have f2 := n3.f 2
    have hlen := n3.len
    have hp3 := n3.plt
    have N3 := Lib.hid n3
    clear n3
    have t7 : decide ((64 : Int) ≤ T.length) = true := by simp; omega
    go_wp2_with (go_at_call 28; refine (added2 W3.heap.size lost 1 _ l0 l1 (by omega) (by omega) (by simp [go_sem]) (by simp [go_sem])).mono ?_; rintro e w' ⟨rfl, rfl⟩)
    go_step3
    refine ⟨rfl, ?_⟩
    go_wp2_with fail
    rw [Exit.noGoto_ret]
    go_ret
    exact ⟨rfl, (N3.out.setLost _).below (below_k _ _), (kp3.out.trans (Kp.setCell p m W3 2 _)).trans (Kp.of_below (below_k _ _))⟩

set_option maxRecDepth 100000 in
set_option maxHeartbeats 4000000 in
theorem Hear_ok1 (p m : Nat) (T : List Rec) (now lost f a nw bad : Int) (w : World) (h : NS w p m T now lost) (hF : FB w) (a0 : 0 ≤ a) (a1 : a < 4294967296) (hB : argB f a bad = true) (hbad : bad ≤ 9223372036854775807) (hT : now ≤ nw ∧ nw ≤ 4611686018427387904) (hN : hasR T f a = true) (hL : T.length ≤ 64) (hnow : 0 ≤ now) :
    Calls Tryd.prog 11 #[.pointer (some ⟨p, 0, none⟩), .int .i64 f, .int .u32 a, .int .i64 nw, .int .i64 bad] w fun e w' => e = .returned (.int .i64 0) ∧ NS w' p m (upR T (heardR T f a nw bad)) nw lost ∧ Kp p m w w' := by
  have g0 := hF.c0
  have g1 := hF.c1
  have lt0 : 0 < w.heap.size := lt_cell g0
  have H := Lib.hid h
  have hplt := h.plt
  clear h hF
  obtain ⟨b1, b2, b3, b4⟩ := argB_iff.1 hB
  clear hB
  have t1 : decide (f < 0) = false := by simp; omega
  have t2 : decide (15 < f) = false := by simp; omega
  have t4 : decide (bad < 0) = false := by simp; omega
  have bb : Hid (0 ≤ bad ∧ bad ≤ 9223372036854775807) := Lib.hid ⟨by omega, hbad⟩
  have hnw : Hid (-9223372036854775808 ≤ nw ∧ nw ≤ 9223372036854775807) := Lib.hid ⟨by omega, by omega⟩
  have hk : Hid (KB f a) := Lib.hid ⟨⟨by omega, by omega⟩, by omega, by omega⟩
  clear b1 b2 b4
  have t5 : decide (nw < now) = false := by simp; omega
  have t6 : decide (4611686018427387904 < nw) = false := by simp; omega
  clear hT
  go_enter Tryd.func11, Tryd.ntmps11
  go_wp2_with fail
  refine wp_scope_fwd 0 rfl ?_
  go_wp2_with (first | (go_at_call 26; refine (none_t _ _ _ _ _ _ (H.out.below (below_k _ _))).mono ?_; rintro e w' ⟨rfl, rfl⟩) | (go_at_call 27; refine (Kind_any _ _ a0 a1).mono ?_; rintro e w1 ⟨rfl, hb1⟩; have hq := (below_k _ _).trans (hb1.mono (below_k _ _).size); have j1 := (H.out.below hq).c1; have jf := (H.out.below hq).f 1; have q0 := cell_below (v := .int .i64 f) (a := ⟨w.heap.size, 0, none⟩) hb1 (by simp [go_sem]); have q1 := cell_below (v := .int .u32 a) (a := ⟨w.heap.size, 1, none⟩) hb1 (by simp [go_sem]); clear hb1))
  have n2 := (H.out.below hq).setNow nw
  have kp : Hid (Kp p m w (w1.setCell ⟨p, 1, none⟩ (.int .i64 nw))) := Lib.hid ((Kp.of_below hq).trans (Kp.setCell p m w1 1 _))
  have e0 : (w1.setCell ⟨p, 1, none⟩ (.int .i64 nw)).cell? ⟨w.heap.size, 0, none⟩ = some (.int .i64 f) := (Kp.setCell p w1.heap.size w1 1 _).cell q0 (by simp; omega) (by have := lt_cell q0; simp at this ⊢; omega)
  have e1 : (w1.setCell ⟨p, 1, none⟩ (.int .i64 nw)).cell? ⟨w.heap.size, 1, none⟩ = some (.int .u32 a) := (Kp.setCell p w1.heap.size w1 1 _).cell q1 (by simp; omega) (by have := lt_cell q0; simp at this ⊢; omega)
  have s0 : w.heap.size < (w1.setCell ⟨p, 1, none⟩ (.int .i64 nw)).heap.size := lt_cell e0
  generalize w1.setCell ⟨p, 1, none⟩ (.int .i64 nw) = W2 at *
  clear q0 q1 hq j1 jf g0 g1
  have d0 := n2.c0
  have hlk1 := (n2.below ((Below.refl _ W2).drew)).look f a hk.out
  have hlk2 := (n2.below (((Below.refl _ W2).alloc (Nat.le_refl _) (Obj.cells #[Value.int IntKind.i64 0, Value.int IntKind.u32 0, Value.int IntKind.i64 0, Value.int IntKind.i64 0, Value.int IntKind.i64 0] 71)).drew)).look f a hk.out
  have hp2 := n2.plt
  have N2 := Lib.hid n2
  clear n2
  rw [hN] at hlk1 hlk2
  generalize hg : getR T f a = g at *
  have Hg := Lib.hid hg
  clear hg
  simp only [recV, keyV] at hlk1 hlk2
  go_region
  all_goals
    clear hlk1 hlk2
    have n3 := N2.out.below (((Below.refl _ W2).alloc (Nat.le_refl _) (Obj.cells #[Value.int IntKind.i64 g.face, Value.int IntKind.u32 g.addr, Value.int IntKind.i64 g.last, Value.int IntKind.i64 g.good, Value.int IntKind.i64 g.bad] 71)).drew)
    have kp3 := Lib.hid (kp.out.trans (Kp.of_below (p := p) (m := m) (((Below.refl _ W2).alloc (Nat.le_refl _) (Obj.cells #[Value.int IntKind.i64 g.face, Value.int IntKind.u32 g.addr, Value.int IntKind.i64 g.last, Value.int IntKind.i64 g.good, Value.int IntKind.i64 g.bad] 71)).drew)))
    have i0 := cell_below (((Below.refl _ W2).alloc (Nat.le_refl _) (Obj.cells #[Value.int IntKind.i64 g.face, Value.int IntKind.u32 g.addr, Value.int IntKind.i64 g.last, Value.int IntKind.i64 g.good, Value.int IntKind.i64 g.bad] 71)).drew) e0
    have i1 := cell_below (((Below.refl _ W2).alloc (Nat.le_refl _) (Obj.cells #[Value.int IntKind.i64 g.face, Value.int IntKind.u32 g.addr, Value.int IntKind.i64 g.last, Value.int IntKind.i64 g.good, Value.int IntKind.i64 g.bad] 71)).drew) e1
    generalize (W2.alloc (Obj.cells #[Value.int IntKind.i64 g.face, Value.int IntKind.u32 g.addr, Value.int IntKind.i64 g.last, Value.int IntKind.i64 g.good, Value.int IntKind.i64 g.bad] 71)).drew = W3 at *
    clear e0 e1 s0 d0 hp2
    have d0 := n3.c0
    have d2 := n3.c2
    have f2 := n3.f 2
    have hlen := n3.len
    have hp3 := n3.plt
    have N3 := Lib.hid n3
    clear n3
    go_wp2_with (go_at_call 29; refine (heard_any p m T nw lost f a bad W3 N3.out hk.out bb.out.1 bb.out.2 (by omega) hnw.out).mono ?_; rintro e w' ⟨⟨v, rfl⟩, hn', hg'⟩)
    simp only [Exit.jump]
    go_ret
    exact ⟨rfl, hn', kp3.out.trans (Kp.of_grown hg')⟩

set_option maxRecDepth 100000 in
set_option maxHeartbeats 4000000 in
theorem Hear_ok2 (p m : Nat) (T : List Rec) (now lost f a nw bad : Int) (w : World) (h : NS w p m T now lost) (hF : FB w) (a0 : 0 ≤ a) (a1 : a < 4294967296) (hB : argB f a bad = true) (hbad : bad ≤ 9223372036854775807) (hT : now ≤ nw ∧ nw ≤ 4611686018427387904) (hN : hasR T f a = false) (hL : T.length < 64) (hnow : 0 ≤ now) :
    Calls Tryd.prog 11 #[.pointer (some ⟨p, 0, none⟩), .int .i64 f, .int .u32 a, .int .i64 nw, .int .i64 bad] w fun e w' => e = .returned (.int .i64 0) ∧ NS w' p m (upR T (heardR T f a nw bad)) nw lost ∧ Kp p m w w' := by
  have g0 := hF.c0
  have g1 := hF.c1
  have lt0 : 0 < w.heap.size := lt_cell g0
  have H := Lib.hid h
  have hplt := h.plt
  clear h hF
  obtain ⟨b1, b2, b3, b4⟩ := argB_iff.1 hB
  clear hB
  have t1 : decide (f < 0) = false := by simp; omega
  have t2 : decide (15 < f) = false := by simp; omega
  have t4 : decide (bad < 0) = false := by simp; omega
  have bb : Hid (0 ≤ bad ∧ bad ≤ 9223372036854775807) := Lib.hid ⟨by omega, hbad⟩
  have hnw : Hid (-9223372036854775808 ≤ nw ∧ nw ≤ 9223372036854775807) := Lib.hid ⟨by omega, by omega⟩
  have hk : Hid (KB f a) := Lib.hid ⟨⟨by omega, by omega⟩, by omega, by omega⟩
  clear b1 b2 b4
  have t5 : decide (nw < now) = false := by simp; omega
  have t6 : decide (4611686018427387904 < nw) = false := by simp; omega
  clear hT
  go_enter Tryd.func11, Tryd.ntmps11
  go_wp2_with fail
  refine wp_scope_fwd 0 rfl ?_
  go_wp2_with (first | (go_at_call 26; refine (none_t _ _ _ _ _ _ (H.out.below (below_k _ _))).mono ?_; rintro e w' ⟨rfl, rfl⟩) | (go_at_call 27; refine (Kind_any _ _ a0 a1).mono ?_; rintro e w1 ⟨rfl, hb1⟩; have hq := (below_k _ _).trans (hb1.mono (below_k _ _).size); have j1 := (H.out.below hq).c1; have jf := (H.out.below hq).f 1; have q0 := cell_below (v := .int .i64 f) (a := ⟨w.heap.size, 0, none⟩) hb1 (by simp [go_sem]); have q1 := cell_below (v := .int .u32 a) (a := ⟨w.heap.size, 1, none⟩) hb1 (by simp [go_sem]); clear hb1))
  have n2 := (H.out.below hq).setNow nw
  have kp : Hid (Kp p m w (w1.setCell ⟨p, 1, none⟩ (.int .i64 nw))) := Lib.hid ((Kp.of_below hq).trans (Kp.setCell p m w1 1 _))
  have e0 : (w1.setCell ⟨p, 1, none⟩ (.int .i64 nw)).cell? ⟨w.heap.size, 0, none⟩ = some (.int .i64 f) := (Kp.setCell p w1.heap.size w1 1 _).cell q0 (by simp; omega) (by have := lt_cell q0; simp at this ⊢; omega)
  have e1 : (w1.setCell ⟨p, 1, none⟩ (.int .i64 nw)).cell? ⟨w.heap.size, 1, none⟩ = some (.int .u32 a) := (Kp.setCell p w1.heap.size w1 1 _).cell q1 (by simp; omega) (by have := lt_cell q0; simp at this ⊢; omega)
  have s0 : w.heap.size < (w1.setCell ⟨p, 1, none⟩ (.int .i64 nw)).heap.size := lt_cell e0
  generalize w1.setCell ⟨p, 1, none⟩ (.int .i64 nw) = W2 at *
  clear q0 q1 hq j1 jf g0 g1
  have d0 := n2.c0
  have hlk1 := (n2.below ((Below.refl _ W2).drew)).look f a hk.out
  have hlk2 := (n2.below (((Below.refl _ W2).alloc (Nat.le_refl _) (Obj.cells #[Value.int IntKind.i64 0, Value.int IntKind.u32 0, Value.int IntKind.i64 0, Value.int IntKind.i64 0, Value.int IntKind.i64 0] 71)).drew)).look f a hk.out
  have hp2 := n2.plt
  have N2 := Lib.hid n2
  clear n2
  rw [hN] at hlk1 hlk2
  generalize hg : getR T f a = g at *
  have Hg := Lib.hid hg
  clear hg
  simp only [recV, keyV] at hlk1 hlk2
  go_region
  all_goals
    clear hlk1 hlk2
    have n3 := N2.out.below (((Below.refl _ W2).alloc (Nat.le_refl _) (Obj.cells #[Value.int IntKind.i64 g.face, Value.int IntKind.u32 g.addr, Value.int IntKind.i64 g.last, Value.int IntKind.i64 g.good, Value.int IntKind.i64 g.bad] 71)).drew)
    have kp3 := Lib.hid (kp.out.trans (Kp.of_below (p := p) (m := m) (((Below.refl _ W2).alloc (Nat.le_refl _) (Obj.cells #[Value.int IntKind.i64 g.face, Value.int IntKind.u32 g.addr, Value.int IntKind.i64 g.last, Value.int IntKind.i64 g.good, Value.int IntKind.i64 g.bad] 71)).drew)))
    have i0 := cell_below (((Below.refl _ W2).alloc (Nat.le_refl _) (Obj.cells #[Value.int IntKind.i64 g.face, Value.int IntKind.u32 g.addr, Value.int IntKind.i64 g.last, Value.int IntKind.i64 g.good, Value.int IntKind.i64 g.bad] 71)).drew) e0
    have i1 := cell_below (((Below.refl _ W2).alloc (Nat.le_refl _) (Obj.cells #[Value.int IntKind.i64 g.face, Value.int IntKind.u32 g.addr, Value.int IntKind.i64 g.last, Value.int IntKind.i64 g.good, Value.int IntKind.i64 g.bad] 71)).drew) e1
    generalize (W2.alloc (Obj.cells #[Value.int IntKind.i64 g.face, Value.int IntKind.u32 g.addr, Value.int IntKind.i64 g.last, Value.int IntKind.i64 g.good, Value.int IntKind.i64 g.bad] 71)).drew = W3 at *
    clear e0 e1 s0 d0 hp2
    have d0 := n3.c0
    have d2 := n3.c2
    have f2 := n3.f 2
    have hlen := n3.len
    have hp3 := n3.plt
    have N3 := Lib.hid n3
    clear n3
    have t7 : decide ((64 : Int) ≤ T.length) = false := by simp; omega
    go_wp2_with (go_at_call 29; refine (heard_any p m T nw lost f a bad W3 N3.out hk.out bb.out.1 bb.out.2 (by omega) hnw.out).mono ?_; rintro e w' ⟨⟨v, rfl⟩, hn', hg'⟩)
    simp only [Exit.jump]
    go_ret
    exact ⟨rfl, hn', kp3.out.trans (Kp.of_grown hg')⟩
end Go.Proofs.YtahkhecfnimdbaaDoor
