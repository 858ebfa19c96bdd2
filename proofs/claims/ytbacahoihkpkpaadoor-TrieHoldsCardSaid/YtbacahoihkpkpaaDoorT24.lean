/- Contracts: trie.folded[int], Nodes, Depth. -/
import Derived.Test.YtbacahoihkpkpaaDoorT23
namespace Go.Proofs.YtbacahoihkpkpaaDoor
open Go.RowKit Go.Shelf Go.Maps

attribute [local go_sem] store_func

def ptrA (b : Nat) : Value := .pointer (some ⟨b, 0, none⟩)
set_option maxRecDepth 100000 in
set_option maxHeartbeats 4000000 in
theorem fold47_any (f : TT → Nat) (hf0 : f .nil = 0) (W0 : World) (b1 b2 : Nat) (hl1 : b1 < W0.heap.size) (hl2 : b2 < W0.heap.size) (h1 : W0.cell? ⟨b1, 0, none⟩ = some (.func (.func 47) #[] #[]))
    (h2 : W0.cell? ⟨b2, 0, none⟩ = some (.func (.func 67) #[] #[.pointer (some ⟨b1, 0, none⟩), .pointer (some ⟨b2, 0, none⟩)]))
    (hG : ∀ b k o l r W B, (TT.node b k o l r).sz ≤ 1000000000 → W.cell? ⟨B, 0, none⟩ = some (.int .i64 (f l)) → W.cell? ⟨B, 1, none⟩ = some (.int .i64 (f r)) →
      Calls Tryd.prog 47 #[.pointer (some ⟨b, 0, none⟩), .slice (some ⟨B, 0, none⟩) 2 2] W fun e w' => e = .returned (.int .i64 (f (.node b k o l r))) ∧ Below W.heap.size W w')
    (T : TT) : ∀ W, T.In W0 → T.sz ≤ 1000000000 → Below W0.heap.size W0 W →
      Calls Tryd.prog 67 #[T.ptr, .pointer (some ⟨b1, 0, none⟩), .pointer (some ⟨b2, 0, none⟩)] W fun e w' => e = .returned (.int .i64 (f T)) ∧ Below W0.heap.size W0 w' := by
  induction T with
  | nil =>
    intro W _ _ hB
    simp only [TT.ptr, hf0]
    go_enter Tryd.func67, Tryd.ntmps67
    go_wp2_with fail
    go_ret
    exact ⟨rfl, hB⟩
  | node b k o lc rc il ir =>
    intro W hin hsz hB
    have hbl := hin.lt (b := b) (by simp [TT.blocks])
    have m4 := hin.c4
    have m5 := hin.c5
    have hG' := hG b k o lc rc
    have z1 : lc.sz ≤ 1000000000 := by simp only [TT.sz] at hsz; omega
    have z2 : rc.sz ≤ 1000000000 := by simp only [TT.sz] at hsz; omega
    have IL := Lib.hid (fun W => il W hin.2.1 z1)
    have IR := Lib.hid (fun W => ir W hin.2.2 z2)
    have HG := Lib.hid (fun W B => hG' W B hsz)
    have HB := Lib.hid hB
    have HCell := Lib.hid (show ∀ W', Below W0.heap.size W0 W' → W'.cell? ⟨b1, 0, none⟩ = some (.func (.func 47) #[] #[]) ∧ W'.cell? ⟨b2, 0, none⟩ = some (.func (.func 67) #[] #[.pointer (some ⟨b1, 0, none⟩), .pointer (some ⟨b2, 0, none⟩)]) ∧ W'.cell? ⟨b, 4, none⟩ = some lc.ptr ∧ W'.cell? ⟨b, 5, none⟩ = some rc.ptr from fun W' h =>
      ⟨(h.cell (p := ⟨b1, 0, none⟩) hl1).trans h1, (h.cell (p := ⟨b2, 0, none⟩) hl2).trans h2, (h.cell (p := ⟨b, 4, none⟩) hbl).trans m4, (h.cell (p := ⟨b, 5, none⟩) hbl).trans m5⟩)
    obtain ⟨e1, e2, e4, e5⟩ := HCell.out W hB
    have g1 : b1 < W.heap.size := Nat.lt_of_lt_of_le hl1 hB.size
    have g2 : b2 < W.heap.size := Nat.lt_of_lt_of_le hl2 hB.size
    have g3 : b < W.heap.size := Nat.lt_of_lt_of_le hbl hB.size
    rw [show (TT.node b k o lc rc).ptr = .pointer (some ⟨b, 0, none⟩) from rfl]
    clear hG hG' il ir hin m4 m5 h1 h2 hB
    go_enter Tryd.func67, Tryd.ntmps67
    go_wp2_with fail
    go_region_held3 (fun w' => w'.cell? ⟨b1, 0, none⟩ = some (.func (.func 47) #[] #[]) ∧ w'.cell? ⟨b2, 0, none⟩ = some (.func (.func 67) #[] #[.pointer (some ⟨b1, 0, none⟩), .pointer (some ⟨b2, 0, none⟩)]) ∧ w'.cell? ⟨b, 4, none⟩ = some lc.ptr ∧ w'.cell? ⟨b, 5, none⟩ = some rc.ptr)
      (go_keep)
      (first
        | (go_at_call 67; with_reducible refine (IL.out _ (HB.out.drew)).mono ?_; rintro e w2 ⟨rfl, hb2⟩; have HB2 := Lib.hid hb2; obtain ⟨x1, x2, x4, x5⟩ := HCell.out _ hb2; have y1 := Nat.lt_of_lt_of_le hl1 hb2.size; have y2 := Nat.lt_of_lt_of_le hl2 hb2.size; have y3 := Nat.lt_of_lt_of_le hbl hb2.size; clear hb2)
        | (go_at_call 67; with_reducible refine (IR.out _ HB2.out).mono ?_; rintro e w3 ⟨rfl, hb3⟩; have HB3 := Lib.hid hb3; obtain ⟨p1, p2, p4, p5⟩ := HCell.out _ hb3; have q1 := Nat.lt_of_lt_of_le hl1 hb3.size; have q2 := Nat.lt_of_lt_of_le hl2 hb3.size; have q3 := Nat.lt_of_lt_of_le hbl hb3.size; clear hb3)
        | (with_reducible refine (HG.out (w3.alloc (Obj.cells #[.int .i64 (f lc), .int .i64 (f rc)] 3)) w3.heap.size (by simp [go_sem]) (by simp [go_sem])).mono ?_; rintro e w4 ⟨rfl, hb4⟩; have HB4 := Lib.hid hb4; have hb5 := (HB3.out.alloc HB3.out.size (Obj.cells #[.int .i64 (f lc), .int .i64 (f rc)] 3)).trans (hb4.mono (by have := HB3.out.size; simp; omega)); have HB5 := Lib.hid hb5; obtain ⟨r1, r2, r4, r5⟩ := HCell.out _ hb5; clear hb4 hb5))
    all_goals
      go_wp2_with fail
      go_ret
      exact ⟨rfl, HB5.out⟩

set_option maxRecDepth 100000 in
set_option maxHeartbeats 4000000 in
theorem fold48_any (f : TT → Nat) (hf0 : f .nil = 0) (W0 : World) (b1 b2 : Nat) (hl1 : b1 < W0.heap.size) (hl2 : b2 < W0.heap.size) (h1 : W0.cell? ⟨b1, 0, none⟩ = some (.func (.func 48) #[] #[]))
    (h2 : W0.cell? ⟨b2, 0, none⟩ = some (.func (.func 67) #[] #[.pointer (some ⟨b1, 0, none⟩), .pointer (some ⟨b2, 0, none⟩)]))
    (hG : ∀ b k o l r W B, (TT.node b k o l r).sz ≤ 1000000000 → W.cell? ⟨B, 0, none⟩ = some (.int .i64 (f l)) → W.cell? ⟨B, 1, none⟩ = some (.int .i64 (f r)) →
      Calls Tryd.prog 48 #[.pointer (some ⟨b, 0, none⟩), .slice (some ⟨B, 0, none⟩) 2 2] W fun e w' => e = .returned (.int .i64 (f (.node b k o l r))) ∧ Below W.heap.size W w')
    (T : TT) : ∀ W, T.In W0 → T.sz ≤ 1000000000 → Below W0.heap.size W0 W →
      Calls Tryd.prog 67 #[T.ptr, .pointer (some ⟨b1, 0, none⟩), .pointer (some ⟨b2, 0, none⟩)] W fun e w' => e = .returned (.int .i64 (f T)) ∧ Below W0.heap.size W0 w' := by
  induction T with
  | nil =>
    intro W _ _ hB
    simp only [TT.ptr, hf0]
    go_enter Tryd.func67, Tryd.ntmps67
    go_wp2_with fail
    go_ret
    exact ⟨rfl, hB⟩
  | node b k o lc rc il ir =>
    intro W hin hsz hB
    have hbl := hin.lt (b := b) (by simp [TT.blocks])
    have m4 := hin.c4
    have m5 := hin.c5
    have hG' := hG b k o lc rc
    have z1 : lc.sz ≤ 1000000000 := by simp only [TT.sz] at hsz; omega
    have z2 : rc.sz ≤ 1000000000 := by simp only [TT.sz] at hsz; omega
    have IL := Lib.hid (fun W => il W hin.2.1 z1)
    have IR := Lib.hid (fun W => ir W hin.2.2 z2)
    have HG := Lib.hid (fun W B => hG' W B hsz)
    have HB := Lib.hid hB
    have HCell := Lib.hid (show ∀ W', Below W0.heap.size W0 W' → W'.cell? ⟨b1, 0, none⟩ = some (.func (.func 48) #[] #[]) ∧ W'.cell? ⟨b2, 0, none⟩ = some (.func (.func 67) #[] #[.pointer (some ⟨b1, 0, none⟩), .pointer (some ⟨b2, 0, none⟩)]) ∧ W'.cell? ⟨b, 4, none⟩ = some lc.ptr ∧ W'.cell? ⟨b, 5, none⟩ = some rc.ptr from fun W' h =>
      ⟨(h.cell (p := ⟨b1, 0, none⟩) hl1).trans h1, (h.cell (p := ⟨b2, 0, none⟩) hl2).trans h2, (h.cell (p := ⟨b, 4, none⟩) hbl).trans m4, (h.cell (p := ⟨b, 5, none⟩) hbl).trans m5⟩)
    obtain ⟨e1, e2, e4, e5⟩ := HCell.out W hB
    have g1 : b1 < W.heap.size := Nat.lt_of_lt_of_le hl1 hB.size
    have g2 : b2 < W.heap.size := Nat.lt_of_lt_of_le hl2 hB.size
    have g3 : b < W.heap.size := Nat.lt_of_lt_of_le hbl hB.size
    rw [show (TT.node b k o lc rc).ptr = .pointer (some ⟨b, 0, none⟩) from rfl]
    clear hG hG' il ir hin m4 m5 h1 h2 hB
    go_enter Tryd.func67, Tryd.ntmps67
    go_wp2_with fail
    go_region_held3 (fun w' => w'.cell? ⟨b1, 0, none⟩ = some (.func (.func 48) #[] #[]) ∧ w'.cell? ⟨b2, 0, none⟩ = some (.func (.func 67) #[] #[.pointer (some ⟨b1, 0, none⟩), .pointer (some ⟨b2, 0, none⟩)]) ∧ w'.cell? ⟨b, 4, none⟩ = some lc.ptr ∧ w'.cell? ⟨b, 5, none⟩ = some rc.ptr)
      (go_keep)
      (first
        | (go_at_call 67; with_reducible refine (IL.out _ (HB.out.drew)).mono ?_; rintro e w2 ⟨rfl, hb2⟩; have HB2 := Lib.hid hb2; obtain ⟨x1, x2, x4, x5⟩ := HCell.out _ hb2; have y1 := Nat.lt_of_lt_of_le hl1 hb2.size; have y2 := Nat.lt_of_lt_of_le hl2 hb2.size; have y3 := Nat.lt_of_lt_of_le hbl hb2.size; clear hb2)
        | (go_at_call 67; with_reducible refine (IR.out _ HB2.out).mono ?_; rintro e w3 ⟨rfl, hb3⟩; have HB3 := Lib.hid hb3; obtain ⟨p1, p2, p4, p5⟩ := HCell.out _ hb3; have q1 := Nat.lt_of_lt_of_le hl1 hb3.size; have q2 := Nat.lt_of_lt_of_le hl2 hb3.size; have q3 := Nat.lt_of_lt_of_le hbl hb3.size; clear hb3)
        | (with_reducible refine (HG.out (w3.alloc (Obj.cells #[.int .i64 (f lc), .int .i64 (f rc)] 3)) w3.heap.size (by simp [go_sem]) (by simp [go_sem])).mono ?_; rintro e w4 ⟨rfl, hb4⟩; have HB4 := Lib.hid hb4; have hb5 := (HB3.out.alloc HB3.out.size (Obj.cells #[.int .i64 (f lc), .int .i64 (f rc)] 3)).trans (hb4.mono (by have := HB3.out.size; simp; omega)); have HB5 := Lib.hid hb5; obtain ⟨r1, r2, r4, r5⟩ := HCell.out _ hb5; clear hb4 hb5))
    all_goals
      go_wp2_with fail
      go_ret
      exact ⟨rfl, HB5.out⟩

theorem dp_le_sz (t : TT) : t.dp ≤ t.sz := by
  induction t with
  | nil => simp [TT.dp, TT.sz]
  | node b k o l r il ir => simp only [TT.dp, TT.sz]; omega
set_option maxRecDepth 100000 in
set_option maxHeartbeats 400000 in
theorem Nodes1_any (b : Nat) (k : Key) (o : Option Int) (l r : TT) (W : World) (B : Nat) (hs : (TT.node b k o l r).sz ≤ 1000000000) (h0 : W.cell? ⟨B, 0, none⟩ = some (.int .i64 l.sz)) (h1 : W.cell? ⟨B, 1, none⟩ = some (.int .i64 r.sz)) :
    Calls Tryd.prog 47 #[.pointer (some ⟨b, 0, none⟩), .slice (some ⟨B, 0, none⟩) 2 2] W fun e w' => e = .returned (.int .i64 (TT.node b k o l r).sz) ∧ Below W.heap.size W w' := by
  simp only [TT.sz] at hs ⊢
  have z1 : IntKind.i64.wrap ((l.sz : Int) + r.sz) = (l.sz : Int) + r.sz := IntWalk.i64_in _ ⟨by omega, by omega⟩
  have z2 : IntKind.i64.wrap ((l.sz : Int) + r.sz + 1) = (l.sz : Int) + r.sz + 1 := IntWalk.i64_in _ ⟨by omega, by omega⟩
  go_enter Tryd.func47, Tryd.ntmps47
  go_wp2_with fail
  refine wp_region_tail 8 (by kernel_rfl) (by kernel_rfl) ?_
  simp only [List.take_succ_cons, List.take_zero, List.drop_succ_cons, List.drop_zero]
  repeat still_step
  refine wpStill_nil ?_
  go_wp2_with fail
  go_ret
  exact ⟨by first | (simp; done) | (simp; omega), (Below.refl _ W).drew⟩
set_option maxRecDepth 100000 in
set_option maxHeartbeats 400000 in
theorem Depth1_any (b : Nat) (k : Key) (o : Option Int) (l r : TT) (W : World) (B : Nat) (hs : (TT.node b k o l r).sz ≤ 1000000000) (h0 : W.cell? ⟨B, 0, none⟩ = some (.int .i64 l.dp)) (h1 : W.cell? ⟨B, 1, none⟩ = some (.int .i64 r.dp)) :
    Calls Tryd.prog 48 #[.pointer (some ⟨b, 0, none⟩), .slice (some ⟨B, 0, none⟩) 2 2] W fun e w' => e = .returned (.int .i64 (TT.node b k o l r).dp) ∧ Below W.heap.size W w' := by
  have q1 := dp_le_sz l
  have q2 := dp_le_sz r
  simp only [TT.sz] at hs
  simp only [TT.dp]
  have z1 : IntKind.i64.wrap ((l.dp : Int) + 1) = (l.dp : Int) + 1 := IntWalk.i64_in _ ⟨by omega, by omega⟩
  have z2 : IntKind.i64.wrap ((r.dp : Int) + 1) = (r.dp : Int) + 1 := IntWalk.i64_in _ ⟨by omega, by omega⟩
  go_enter Tryd.func48, Tryd.ntmps48
  go_wp2_with fail
  refine wp_region_tail 8 (by kernel_rfl) (by kernel_rfl) ?_
  simp only [List.take_succ_cons, List.take_zero, List.drop_succ_cons, List.drop_zero]
  repeat still_step
  refine wpStill_nil ?_
  go_wp2_with fail
  all_goals
    go_ret
    exact ⟨by first | (simp; done) | (simp; omega), (Below.refl _ W).drew⟩

set_option maxRecDepth 100000 in
set_option maxHeartbeats 2000000 in
theorem foldedN47 (T : TT) (w : World) (hin : T.In w) (hsz : T.sz ≤ 1000000000) :
    Calls Tryd.prog 46 #[T.ptr, .func (.func 47) #[] #[]] w fun e w' => e = .returned (.int .i64 T.sz) ∧ Below w.heap.size w w' := by
  have HIn := Lib.hid hin
  clear hin
  go_enter Tryd.func46, Tryd.ntmps46
  go_upto_region 3 with fail
  generalize hX : ((w.alloc (Obj.cells #[Value.func (Fn.func 47) #[] #[]] 93)).alloc (Obj.cells #[Value.func (Fn.func 67) #[] #[.pointer (some ⟨w.heap.size, 0, none⟩), .pointer (some ⟨w.heap.size + 1, 0, none⟩)]] 118)) = X
  have hB : Below w.heap.size w X := by subst hX; exact ((Below.refl _ _).alloc (Nat.le_refl _) _).alloc (by simp) _
  have x1 : X.cell? ⟨w.heap.size, 0, none⟩ = some (.func (.func 47) #[] #[]) := by subst hX; simp [go_sem]
  have x2 : X.cell? ⟨w.heap.size + 1, 0, none⟩ = some (.func (.func 67) #[] #[.pointer (some ⟨w.heap.size, 0, none⟩), .pointer (some ⟨w.heap.size + 1, 0, none⟩)]) := by subst hX; simp [go_sem]
  have hs : X.heap.size = w.heap.size + 2 := by subst hX; simp
  clear hX
  have HL := Lib.hid (fold47_any TT.sz rfl X w.heap.size (w.heap.size + 1) (by omega) (by omega) x1 x2 (fun b k o l r W B h => Nodes1_any b k o l r W B h) T X (HIn.out.below hB) hsz (Below.refl _ _))
  have HB := Lib.hid hB
  clear hB x1
  go_wp2_with (go_at_call 67; with_reducible refine HL.out.mono ?_; rintro e w2 ⟨rfl, hb2⟩)
  go_ret
  exact ⟨rfl, HB.out.trans (hb2.mono (by omega))⟩

set_option maxRecDepth 100000 in
set_option maxHeartbeats 2000000 in
theorem foldedN48 (T : TT) (w : World) (hin : T.In w) (hsz : T.sz ≤ 1000000000) :
    Calls Tryd.prog 46 #[T.ptr, .func (.func 48) #[] #[]] w fun e w' => e = .returned (.int .i64 T.dp) ∧ Below w.heap.size w w' := by
  have HIn := Lib.hid hin
  clear hin
  go_enter Tryd.func46, Tryd.ntmps46
  go_upto_region 3 with fail
  generalize hX : ((w.alloc (Obj.cells #[Value.func (Fn.func 48) #[] #[]] 93)).alloc (Obj.cells #[Value.func (Fn.func 67) #[] #[.pointer (some ⟨w.heap.size, 0, none⟩), .pointer (some ⟨w.heap.size + 1, 0, none⟩)]] 118)) = X
  have hB : Below w.heap.size w X := by subst hX; exact ((Below.refl _ _).alloc (Nat.le_refl _) _).alloc (by simp) _
  have x1 : X.cell? ⟨w.heap.size, 0, none⟩ = some (.func (.func 48) #[] #[]) := by subst hX; simp [go_sem]
  have x2 : X.cell? ⟨w.heap.size + 1, 0, none⟩ = some (.func (.func 67) #[] #[.pointer (some ⟨w.heap.size, 0, none⟩), .pointer (some ⟨w.heap.size + 1, 0, none⟩)]) := by subst hX; simp [go_sem]
  have hs : X.heap.size = w.heap.size + 2 := by subst hX; simp
  clear hX
  have HL := Lib.hid (fold48_any TT.dp rfl X w.heap.size (w.heap.size + 1) (by omega) (by omega) x1 x2 (fun b k o l r W B h => Depth1_any b k o l r W B h) T X (HIn.out.below hB) hsz (Below.refl _ _))
  have HB := Lib.hid hB
  clear hB x1
  go_wp2_with (go_at_call 67; with_reducible refine HL.out.mono ?_; rintro e w2 ⟨rfl, hb2⟩)
  go_ret
  exact ⟨rfl, HB.out.trans (hb2.mono (by omega))⟩

set_option maxRecDepth 100000 in
set_option maxHeartbeats 2000000 in
theorem Nodes_any (q : Nat) (t : TT) (w : World) (h : TrS w q t) (hsz : t.sz ≤ 1000000000) : Calls Tryd.prog 24 #[.pointer (some ⟨q, 0, none⟩)] w fun e w' => e = .returned (.int .i64 t.sz) ∧ Below w.heap.size w w' := by
  have c0 := h.c0
  have HN := Lib.hid (none_t q t _ h)
  have HF := Lib.hid (foldedN47 t w h.here hsz)
  clear h
  go_enter Tryd.func24, Tryd.ntmps24
  go_wp2_with (first
    | (go_at_call 34; with_reducible refine HN.out.mono ?_; rintro e w' ⟨rfl, rfl⟩)
    | (go_at_call 46; with_reducible refine HF.out.mono ?_; rintro e w2 ⟨rfl, hb2⟩)
    | fail)
  go_ret
  exact ⟨rfl, hb2⟩
set_option maxHeartbeats 400000 in
theorem Nodes_nil (w : World) : Calls Tryd.prog 24 #[.pointer none] w fun e w' => e = .returned (.int .i64 0) ∧ w = w' := by
  go_enter Tryd.func24, Tryd.ntmps24
  go_wp2_with (go_at_call 34; with_reducible refine (none_n _).mono ?_; rintro e w' ⟨rfl, rfl⟩)
  go_ret
  exact ⟨rfl, rfl⟩

set_option maxRecDepth 100000 in
set_option maxHeartbeats 2000000 in
theorem Depth_any (q : Nat) (t : TT) (w : World) (h : TrS w q t) (hsz : t.sz ≤ 1000000000) : Calls Tryd.prog 25 #[.pointer (some ⟨q, 0, none⟩)] w fun e w' => e = .returned (.int .i64 t.dp) ∧ Below w.heap.size w w' := by
  have c0 := h.c0
  have HN := Lib.hid (none_t q t _ h)
  have HF := Lib.hid (foldedN48 t w h.here hsz)
  clear h
  go_enter Tryd.func25, Tryd.ntmps25
  go_wp2_with (first
    | (go_at_call 34; with_reducible refine HN.out.mono ?_; rintro e w' ⟨rfl, rfl⟩)
    | (go_at_call 46; with_reducible refine HF.out.mono ?_; rintro e w2 ⟨rfl, hb2⟩)
    | fail)
  go_ret
  exact ⟨rfl, hb2⟩
set_option maxHeartbeats 400000 in
theorem Depth_nil (w : World) : Calls Tryd.prog 25 #[.pointer none] w fun e w' => e = .returned (.int .i64 0) ∧ w = w' := by
  go_enter Tryd.func25, Tryd.ntmps25
  go_wp2_with (go_at_call 34; with_reducible refine (none_n _).mono ?_; rintro e w' ⟨rfl, rfl⟩)
  go_ret
  exact ⟨rfl, rfl⟩
end Go.Proofs.YtbacahoihkpkpaaDoor
