/- Queues: Cancel, Next, Pop. -/
import Derived.Test.YtkigoihdmojpfaaK9
namespace Go.Proofs.Ytkigoihdmojpfaa
open Go.RowKit

set_option maxRecDepth 100000 in
set_option maxHeartbeats 8000000 in
theorem Cancel_arg (q p : Nat) (k a n : Int) (w : World) (h : w.cell? ⟨q, 0, none⟩ = some (.pointer (some ⟨p, 0, none⟩))) (hr : rightT k a n = false) :
    Calls Try.prog 25 #[.pointer (some ⟨q, 0, none⟩), keyV k a n] w fun e w' => e = .returned (.tuple #[.int .i64 0, .bool false, .int .i64 2]) ∧ Below w.heap.size w w' := by
  have hq := World.block_lt_of_cell? w _ h
  have HC := Lib.hid (fun W => (CheckT_any k a n W))
  unfold chkT at HC
  rw [hr] at HC
  unfold keyV at HC ⊢
  have hc := fun o => (cellL (below1 w o) h)
  have HQ := Lib.hid hc
  clear h hr hc
  go_enter Try.func25, Try.ntmps25
  go_wp2_with fail
  refine wp_scope_fwd 0 rfl ?_
  go_wp2_with (first | (go_at_call 35; (with_reducible refine (none_t _ _ _ (HQ.out _)).mono ?_); rintro e w' ⟨rfl, rfl⟩) | (go_at_call 16; (with_reducible refine (HC.out _).mono ?_); rintro e w2 ⟨rfl, hb⟩; have HB := Lib.hid hb; clear hb))
  go_step3
  refine ⟨rfl, ?_⟩
  go_wp2
  rw [Exit.noGoto_ret]
  exact bodyPost_ret (v := .tuple #[.int .i64 0, .bool false, .int .i64 2]) (by simp [results, Try.results25, go_sem]) rfl ⟨rfl, bthen (below1 _ _) HB.out⟩

set_option maxRecDepth 100000 in
set_option maxHeartbeats 8000000 in
theorem Cancel_nil (k a n : Int) (w : World) :
    Calls Try.prog 25 #[.pointer none, keyV k a n] w fun e w' => e = .returned (.tuple #[.int .i64 0, .bool false, .int .i64 1]) ∧ Below w.heap.size w w' := by
  unfold keyV
  go_enter Try.func25, Try.ntmps25
  go_wp2_with fail
  refine wp_scope_fwd 0 rfl ?_
  go_wp2_with (go_at_call 35; (with_reducible refine (none_nil _).mono ?_); rintro e w' ⟨rfl, rfl⟩)
  go_step3
  refine ⟨rfl, ?_⟩
  go_wp2
  rw [Exit.noGoto_ret]
  exact bodyPost_ret (v := .tuple #[.int .i64 0, .bool false, .int .i64 1]) (by simp [results, Try.results25, go_sem]) rfl ⟨rfl, below1 _ _⟩

set_option maxRecDepth 100000 in
set_option maxHeartbeats 8000000 in
theorem Cancel_no (q p m : Nat) (v : Value) (L : List TR) (k a n : Int) (w : World) (h : QS w q p m v L) (hk : KBt k a n) (hr : rightT k a n = true) (hn : ∀ r ∈ L, ¬ (r.kind = k ∧ r.addr = a ∧ r.len = n)) :
    Calls Try.prog 25 #[.pointer (some ⟨q, 0, none⟩), keyV k a n] w fun e w' => e = .returned (.tuple #[.int .i64 0, .bool false, .int .i64 0]) ∧ Below w.heap.size w w' := by
  have HX : ∀ X, X = w.alloc (.cells #[.int .i64 k, .int .u32 a, .int .i64 n] 29) → QS X q p m v L ∧ TBox X w.heap.size k a n ∧ Below w.heap.size w X := by
    intro X e
    subst e
    exact ⟨h.below (below1 _ _), TBox.new _ _ _ _, below1 _ _⟩
  have HC := Lib.hid (fun W => (CheckT_any k a n W))
  unfold chkT at HC
  rw [hr] at HC
  have Hk := Lib.hid hk
  have Hn := Lib.hid hn
  clear h hk hr hn
  unfold keyV at HC ⊢
  go_enter Try.func25, Try.ntmps25
  go_wp2_with fail
  go_step3
  go_upto_region 2 with fail
  generalize w.alloc (.cells #[.int .i64 k, .int .u32 a, .int .i64 n] 29) = X at *
  obtain ⟨hQ, hT, hB⟩ := HX X rfl
  have HQ := Lib.hid hQ
  have HT := Lib.hid hT
  have HB := Lib.hid hB
  have b0 := hT.c0
  have b1 := hT.c1
  have b2 := hT.c2
  clear HX hQ hT hB
  go_upto_region 5 with (first | (go_at_call 35; (with_reducible refine (none_t _ _ _ HQ.out.c).mono ?_); rintro e w' ⟨rfl, rfl⟩) | (go_at_call 16; (with_reducible refine (HC.out _).mono ?_); rintro e w2 ⟨rfl, hb⟩; have HB2 := Lib.hid hb; clear hb))
  have HQ2 := Lib.hid ((HQ.out.below HB2.out).below (Below.refl _ w2).drew)
  have hQ2 := HQ2.out
  have hT2 := (HT.out.below HB2.out).below (Below.refl _ w2).drew
  have hlk := hQ2.hs.look_none Hk.out Hn.out
  have e0 : w2.cell? ⟨q, 0, none⟩ = _ := hQ2.c
  have e2 : w2.cell? ⟨p, 1, none⟩ = _ := hQ2.hs.c1
  clear b0 b1 b2
  have b0 : w2.cell? ⟨w.heap.size, 0, none⟩ = _ := hT2.c0
  have b1 : w2.cell? ⟨w.heap.size, 1, none⟩ = _ := hT2.c1
  have b2 : w2.cell? ⟨w.heap.size, 2, none⟩ = _ := hT2.c2
  simp only [keyV] at hlk
  clear hQ2 hT2
  go_region_held3 (fun w' => w'.cell? ⟨q, 0, none⟩ = some (.pointer (some ⟨p, 0, none⟩)) ∧ w'.cell? ⟨p, 1, none⟩ = some (.map (some m)) ∧ w'.cell? ⟨w.heap.size, 0, none⟩ = some (.int .i64 k) ∧ w'.cell? ⟨w.heap.size, 1, none⟩ = some (.int .u32 a) ∧ w'.cell? ⟨w.heap.size, 2, none⟩ = some (.int .i64 n))
    (go_keep) (fail)
  go_wp2_with fail
  rw [Exit.noGoto_ret]
  exact bodyPost_ret (v := .tuple #[.int .i64 0, .bool false, .int .i64 0]) (by simp [results, Try.results25, go_sem]) rfl ⟨rfl, (bthen HB.out HB2.out).drew⟩

set_option maxRecDepth 100000 in
set_option maxHeartbeats 8000000 in
theorem Cancel_yes (q p m : Nat) (v : Value) (L S : List TR) (i : Nat) (x : TR) (w : World) (h : QS w q p m v L) (hp : L.Perm S) (hO : OrdS S) (hx : L[i]? = some x) (hl : L.length < 10000) :
    Calls Try.prog 25 #[.pointer (some ⟨q, 0, none⟩), keyV x.kind x.addr x.len] w fun e w' => Did w w' q (q :: foot p m v) (wo x.kind x.addr x.len S) x.due true 0 e := by
  have HX : ∀ X, X = w.alloc (.cells #[.int .i64 x.kind, .int .u32 x.addr, .int .i64 x.len] 29) → QS X q p m v L ∧ TBox X w.heap.size x.kind x.addr x.len ∧ Below w.heap.size w X := by
    intro X e
    subst e
    exact ⟨h.below (below1 _ _), TBox.new _ _ _ _, below1 _ _⟩
  have hwx := h.hs.wf x (List.mem_of_getElem? hx)
  have HC := Lib.hid (fun W => (CheckT_any x.kind x.addr x.len W))
  unfold chkT at HC
  rw [hwx.right] at HC
  have Hxx := Lib.hid hx
  have Hp := Lib.hid hp
  have HO := Lib.hid hO
  have H0 := Lib.hid h
  have hil := (List.getElem?_eq_some_iff.1 hx).1
  clear h hx hp hO
  unfold keyV at HC ⊢
  go_enter Try.func25, Try.ntmps25
  go_wp2_with fail
  go_step3
  go_upto_region 2 with fail
  generalize w.alloc (.cells #[.int .i64 x.kind, .int .u32 x.addr, .int .i64 x.len] 29) = X at *
  obtain ⟨hQ, hT, hB⟩ := HX X rfl
  have HQ := Lib.hid hQ
  have HT := Lib.hid hT
  have HB := Lib.hid hB
  have b0 := hT.c0
  have b1 := hT.c1
  have b2 := hT.c2
  clear HX hQ hT hB
  go_upto_region 5 with (first | (go_at_call 35; (with_reducible refine (none_t _ _ _ HQ.out.c).mono ?_); rintro e w' ⟨rfl, rfl⟩) | (go_at_call 16; (with_reducible refine (HC.out _).mono ?_); rintro e w2 ⟨rfl, hb⟩; have HB2 := Lib.hid hb; clear hb))
  have HQ2 := Lib.hid ((HQ.out.below HB2.out).below (Below.refl _ w2).drew)
  have hQ2 := HQ2.out
  have hT2 := (HT.out.below HB2.out).below (Below.refl _ w2).drew
  have hlk := hQ2.hs.look_some Hxx.out
  have e0 : w2.cell? ⟨q, 0, none⟩ = _ := hQ2.c
  have e2 : w2.cell? ⟨p, 1, none⟩ = _ := hQ2.hs.c1
  clear b0 b1 b2
  have b0 : w2.cell? ⟨w.heap.size, 0, none⟩ = _ := hT2.c0
  have b1 : w2.cell? ⟨w.heap.size, 1, none⟩ = _ := hT2.c1
  have b2 : w2.cell? ⟨w.heap.size, 2, none⟩ = _ := hT2.c2
  simp only [keyV] at hlk
  have HRm := Lib.hid (hRemove_any p m v L x i (L.length - 1) w2.drew hQ2.hs Hxx.out (by omega) (by omega) HQ2.out.hp)
  clear hQ2 hT2
  go_region_held3 (fun w' => w'.cell? ⟨q, 0, none⟩ = some (.pointer (some ⟨p, 0, none⟩)) ∧ w'.cell? ⟨p, 1, none⟩ = some (.map (some m)) ∧ w'.cell? ⟨w.heap.size, 0, none⟩ = some (.int .i64 x.kind) ∧ w'.cell? ⟨w.heap.size, 1, none⟩ = some (.int .u32 x.addr) ∧ w'.cell? ⟨w.heap.size, 2, none⟩ = some (.int .i64 x.len))
    (go_keep) (fail)
  have hta := tAssert x.kind x.addr x.len x.due
  go_wp2_with (go_at_call 46; (with_reducible refine HRm.out.mono ?_); rintro e w4 hh; obtain ⟨he, hh⟩ := hh; unfold rowV at he; subst he; have HH := Lib.hid hh; clear hh)
  rw [Exit.noGoto_ret]
  refine bodyPost_ret (v := .tuple #[.int .i64 x.due, .bool true, .int .i64 0]) (by simp [results, Try.results25, go_sem]) rfl ⟨rfl, ?_⟩
  exact (QNew.of_heaped H0.out (KB.of_below (bthen HB.out HB2.out)).drew HH.out (wo_perm Hp.out (H0.out.hs.ap.perm Hp.out) Hxx.out) (HO.out.wo _ _ _)).post (below1 _ _)

set_option maxRecDepth 100000 in
set_option maxHeartbeats 8000000 in
theorem Next_nil (w : World) :
    Calls Try.prog 26 #[.pointer none] w fun e w' => e = .returned (.tuple #[.agg #[.int .i64 0, .int .u32 0, .int .i64 0], .int .i64 0, .bool false]) ∧ Below w.heap.size w w' := by
  go_enter Try.func26, Try.ntmps26
  go_wp2_with (go_at_call 35; (with_reducible refine (none_nil _).mono ?_); rintro e w' ⟨rfl, rfl⟩)
  exact bodyPost_ret (v := .tuple #[.agg #[.int .i64 0, .int .u32 0, .int .i64 0], .int .i64 0, .bool false]) (by simp [results, Try.results26, go_sem]) rfl ⟨rfl, below1 _ _⟩
set_option maxRecDepth 100000 in
set_option maxHeartbeats 8000000 in
theorem Next_empty (q p m : Nat) (v : Value) (w : World) (h : QS w q p m v []) :
    Calls Try.prog 26 #[.pointer (some ⟨q, 0, none⟩)] w fun e w' => e = .returned (.tuple #[.agg #[.int .i64 0, .int .u32 0, .int .i64 0], .int .i64 0, .bool false]) ∧ Below w.heap.size w w' := by
  have HX : ∀ X, X = w.alloc (.cells #[.int .i64 0, .int .u32 0, .int .i64 0] 29) → QS X q p m v [] ∧ TBox X w.heap.size 0 0 0 ∧ Below w.heap.size w X := by
    intro X e
    subst e
    exact ⟨h.below (below1 _ _), TBox.new _ _ _ _, below1 _ _⟩
  have hv : ∃ base cap, v = .slice base 0 cap := by obtain ⟨base, g, cap, hv, _⟩ := h.hs.sl; exact ⟨base, cap, hv⟩
  obtain ⟨base, cap, rfl⟩ := hv
  clear h
  go_enter Try.func26, Try.ntmps26
  go_upto_region 1 with fail
  generalize w.alloc (.cells #[.int .i64 0, .int .u32 0, .int .i64 0] 29) = X at *
  obtain ⟨hQ, hT, hB⟩ := HX X rfl
  have HQ := Lib.hid hQ
  have HB := Lib.hid hB
  have e0 := hQ.c
  have e1 := hQ.hs.c0
  have b0 := hT.c0
  have b1 := hT.c1
  have b2 := hT.c2
  have f0 := hT.f 0
  have f1 := hT.f 1
  have f2 := hT.f 2
  have hl : (([] : List TR).length : Int) = 0 := rfl
  have HL := rLen_any p m (.slice base 0 cap) [] X hQ.hs
  rw [hl] at HL
  have HLn := Lib.hid HL
  clear HX hQ hT hB HL hl
  go_wp2_with (first | (go_at_call 35; (with_reducible refine (none_t _ _ _ HQ.out.c).mono ?_); rintro e w' ⟨rfl, rfl⟩) | (go_at_call 43; (with_reducible refine HLn.out.mono ?_); rintro e w' ⟨rfl, rfl⟩))
  exact bodyPost_ret (v := .tuple #[.agg #[.int .i64 0, .int .u32 0, .int .i64 0], .int .i64 0, .bool false]) (by simp [results, Try.results26, go_sem, b0, b1, b2]) rfl ⟨rfl, by
    refine ⟨?_, ?_, ?_, ?_, ?_⟩
    · exact HB.out.os
    · exact HB.out.tape
    · exact HB.out.output
    · simpa using HB.out.size
    · intro k hk
      rw [Below.heap_setCell _ _ _ _ (by simp; omega), Below.heap_setCell _ _ _ _ (by simp; omega), Below.heap_setCell _ _ _ _ (by simp; omega)]
      exact HB.out.block k hk⟩

theorem TBox.set {W : World} {B : Nat} {k a n : Int} (k' a' n' : Int) (h : TBox W B k a n) : TBox (((W.setCell ⟨B, 0, none⟩ (.int .i64 k')).setCell ⟨B, 1, none⟩ (.int .u32 a')).setCell ⟨B, 2, none⟩ (.int .i64 n')) B k' a' n' :=
  heap_setCell_same _ B 2 _ 29 _ (heap_setCell_same _ B 1 _ 29 _ (heap_setCell_same W B 0 _ 29 _ h))
theorem below_set3 {w W : World} {B : Nat} (h : Below w.heap.size w W) (hB : w.heap.size ≤ B) (x y z : Value) : Below w.heap.size w (((W.setCell ⟨B, 0, none⟩ x).setCell ⟨B, 1, none⟩ y).setCell ⟨B, 2, none⟩ z) := by
  refine ⟨h.os, h.tape, h.output, by simpa using h.size, fun k hk => ?_⟩
  rw [Below.heap_setCell _ _ _ _ (by simp; omega), Below.heap_setCell _ _ _ _ (by simp; omega), Below.heap_setCell _ _ _ _ (by simp; omega)]
  exact h.block k hk

set_option maxRecDepth 100000 in
set_option maxHeartbeats 8000000 in
theorem Next_some (q p m : Nat) (v : Value) (L : List TR) (x : TR) (w : World) (h : QS w q p m v L) (hx : L[0]? = some x) (hl : L.length < 10000) :
    Calls Try.prog 26 #[.pointer (some ⟨q, 0, none⟩)] w fun e w' => e = .returned (.tuple #[keyV x.kind x.addr x.len, .int .i64 x.due, .bool true]) ∧ Below w.heap.size w w' := by
  have HX : ∀ X, X = w.alloc (.cells #[.int .i64 0, .int .u32 0, .int .i64 0] 29) → QS X q p m v L ∧ TBox X w.heap.size 0 0 0 ∧ Below w.heap.size w X := by
    intro X e
    subst e
    exact ⟨h.below (below1 _ _), TBox.new _ _ _ _, below1 _ _⟩
  have hil := (List.getElem?_eq_some_iff.1 hx).1
  have Hx := Lib.hid hx
  clear h hx
  unfold keyV
  go_enter Try.func26, Try.ntmps26
  go_upto_region 1 with fail
  generalize w.alloc (.cells #[.int .i64 0, .int .u32 0, .int .i64 0] 29) = X at *
  obtain ⟨hQ, hT, hB⟩ := HX X rfl
  have HQ := Lib.hid hQ
  have HB := Lib.hid hB
  have HT := Lib.hid hT
  have e0 := hQ.c
  have e1 := hQ.hs.c0
  have b0 := hT.c0
  have b1 := hT.c1
  have b2 := hT.c2
  have f0 := hT.f 0
  have f1 := hT.f 1
  have f2 := hT.f 2
  have HLn := Lib.hid (rLen_any p m v L X hQ.hs)
  obtain ⟨base, g, cap, rfl, _, _, hS, _⟩ := hQ.hs.sl
  obtain ⟨rfl, y0, y1, y2, y3⟩ := hS.row 0 x Hx.out
  simp only [Nat.zero_add, Nat.zero_mul] at y0 y1 y2 y3
  have t1 : ((L.length : Int) == 0) = false := by simp; intro e; rw [e] at hil; simp at hil
  have i1 : (0 : Int) < (L.length : Int) := by omega
  have hbX : w.heap.size ≠ X.heap.size := by have := hT.lt; omega
  clear HX hQ hT hB hS
  go_upto_region 4 with (first | (go_at_call 35; (with_reducible refine (none_t _ _ _ HQ.out.c).mono ?_); rintro e w' ⟨rfl, rfl⟩) | (go_at_call 43; (with_reducible refine HLn.out.mono ?_); rintro e w' ⟨rfl, rfl⟩))
  have HY : ∀ Y, Y = X.alloc (.cells #[.int .i64 x.kind, .int .u32 x.addr, .int .i64 x.len, .int .i64 x.due] 85) → TBox Y w.heap.size 0 0 0 ∧ RBox Y X.heap.size x ∧ Below w.heap.size w Y := by
    intro Y e
    subst e
    exact ⟨HT.out.below (below1 _ _), RBox.new _ _, bthen HB.out (below1 _ _)⟩
  generalize X.alloc (.cells #[.int .i64 x.kind, .int .u32 x.addr, .int .i64 x.len, .int .i64 x.due] 85) = Y at *
  obtain ⟨hT, hR, hBY⟩ := HY Y rfl
  have HTY := Lib.hid hT
  have HBY := Lib.hid hBY
  clear b0 b1 b2 f0 f1 f2 e0 e1 y0 y1 y2 y3 HY
  have b0 := hT.c0
  have b1 := hT.c1
  have b2 := hT.c2
  have f0 := hT.f 0
  have f1 := hT.f 1
  have f2 := hT.f 2
  have y0 := hR.c0
  have y1 := hR.c1
  have y2 := hR.c2
  have y3 := hR.c3
  clear hT hR hBY
  go_region
  all_goals go_wp2_with fail
  all_goals
    have HV : ∀ V, V = (((Y.setCell ⟨w.heap.size, 0, none⟩ (.int .i64 x.kind)).setCell ⟨w.heap.size, 1, none⟩ (.int .u32 x.addr)).setCell ⟨w.heap.size, 2, none⟩ (.int .i64 x.len)).drew → TBox V w.heap.size x.kind x.addr x.len ∧ Below w.heap.size w V := by
      intro V e
      subst e
      exact ⟨(HTY.out.set x.kind x.addr x.len).below (Below.refl _ _).drew, (below_set3 HBY.out (Nat.le_refl _) _ _ _).drew⟩
    generalize (((Y.setCell ⟨w.heap.size, 0, none⟩ (.int .i64 x.kind)).setCell ⟨w.heap.size, 1, none⟩ (.int .u32 x.addr)).setCell ⟨w.heap.size, 2, none⟩ (.int .i64 x.len)).drew = V at *
    obtain ⟨hV, hVB⟩ := HV V rfl
    have v0 := hV.c0
    have v1 := hV.c1
    have v2 := hV.c2
    exact bodyPost_ret (v := .tuple #[.agg #[.int .i64 x.kind, .int .u32 x.addr, .int .i64 x.len], .int .i64 x.due, .bool true]) (by simp [results, Try.results26, go_sem, v0, v1, v2]) rfl ⟨rfl, hVB⟩
end Go.Proofs.Ytkigoihdmojpfaa
