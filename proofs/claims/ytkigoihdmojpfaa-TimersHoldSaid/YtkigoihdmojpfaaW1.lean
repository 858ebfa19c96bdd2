/- The law's works. (Printed by gen_w1.py.) -/
import Derived.Test.YtkigoihdmojpfaaL1
namespace Go.Proofs.Ytkigoihdmojpfaa
open Go.RowKit

set_option maxHeartbeats 400000 in
theorem num_any (n : Int) (w : World) : Calls Try.prog 15 #[.int .i64 n] w fun e w' => e = .returned (.int .i64 n) ∧ w = w' := by
  go_enter Try.func15, Try.ntmps15
  go_wp2
  go_ret
  exact ⟨rfl, rfl⟩
theorem below_box3 (w : World) (x y z x' y' z' : Value) : Below w.heap.size w ((((w.alloc (.cells #[x, y, z] 29)).setCell ⟨w.heap.size, 0, none⟩ x').setCell ⟨w.heap.size, 1, none⟩ y').setCell ⟨w.heap.size, 2, none⟩ z') :=
  below_set3 (below1 w _) (Nat.le_refl _) _ _ _
set_option maxRecDepth 100000 in
set_option maxHeartbeats 400000 in
theorem period_any (w : World) : Calls Try.prog 27 #[] w fun e w' => e = .returned (.agg #[.int .i64 1, .int .u32 0, .int .i64 0]) ∧ Below w.heap.size w w' := by
  go_enter Try.func27, Try.ntmps27
  go_wp2
  have B1 := below1 w (.cells #[.int .i64 1, .int .u32 0, .int .i64 0] 29)
  have B2 := heap_alloc_new w (.cells #[.int .i64 1, .int .u32 0, .int .i64 0] 29)
  refine bodyPost_ret (v := .agg #[.int .i64 1, .int .u32 0, .int .i64 0]) (by simp [results, Try.results27, go_sem]) rfl ⟨rfl, ?_⟩
  first | exact B1 | exact below_box3 _ _ _ _ _ _ _
set_option maxRecDepth 100000 in
set_option maxHeartbeats 400000 in
theorem quiet_any (w : World) : Calls Try.prog 29 #[] w fun e w' => e = .returned (.agg #[.int .i64 2, .int .u32 0, .int .i64 0]) ∧ Below w.heap.size w w' := by
  go_enter Try.func29, Try.ntmps29
  go_wp2
  have B1 := below1 w (.cells #[.int .i64 2, .int .u32 0, .int .i64 0] 29)
  have B2 := heap_alloc_new w (.cells #[.int .i64 2, .int .u32 0, .int .i64 0] 29)
  refine bodyPost_ret (v := .agg #[.int .i64 2, .int .u32 0, .int .i64 0]) (by simp [results, Try.results29, go_sem]) rfl ⟨rfl, ?_⟩
  first | exact B1 | exact below_box3 _ _ _ _ _ _ _
set_option maxRecDepth 100000 in
set_option maxHeartbeats 400000 in
theorem route_any (w : World) : Calls Try.prog 28 #[] w fun e w' => e = .returned (.agg #[.int .i64 3, .int .u32 167772160, .int .i64 8]) ∧ Below w.heap.size w w' := by
  go_enter Try.func28, Try.ntmps28
  go_wp2
  have B1 := below1 w (.cells #[.int .i64 3, .int .u32 167772160, .int .i64 8] 29)
  have B2 := heap_alloc_new w (.cells #[.int .i64 3, .int .u32 167772160, .int .i64 8] 29)
  refine bodyPost_ret (v := .agg #[.int .i64 3, .int .u32 167772160, .int .i64 8]) (by simp [results, Try.results28, go_sem]) rfl ⟨rfl, ?_⟩
  first | exact B1 | exact below_box3 _ _ _ _ _ _ _

def p30 : TR := ⟨1, 0, 0, 30⟩
def r20 : TR := ⟨3, 167772160, 8, 20⟩
def q20 : TR := ⟨2, 0, 0, 20⟩
def q40 : TR := ⟨2, 0, 0, 40⟩
theorem wf_p30 : p30.Wf := ⟨rfl, by decide, by decide, by decide, by decide⟩
theorem wf_r20 : r20.Wf := ⟨by decide, by decide, by decide, by decide, by decide⟩
theorem wf_q20 : q20.Wf := ⟨rfl, by decide, by decide, by decide, by decide⟩
theorem wf_q40 : q40.Wf := ⟨rfl, by decide, by decide, by decide, by decide⟩
theorem arm_c {w0 W : World} {q : Nat} {S : List TR} {K : List (Nat × Obj)} (h : OQ w0 W q S K) (r : TR) (hr : r.Wf) (hl : S.length < 10000) (S' : List TR) (c : Int) (b : Bool) (e1 : armS S r = S') (e2 : dueS S r.kind r.addr r.len = (c, b)) :
    Calls Try.prog 19 #[.pointer (some ⟨q, 0, none⟩), keyV r.kind r.addr r.len, .int .i64 r.due] W fun e w' => e = .returned (.tuple #[.int .i64 c, .bool b, .int .i64 0]) ∧ OQ w0 w' q S' K := by
  have := Arm_o h r hr hl
  rw [e1, e2] at this
  exact this
theorem pop_c {w0 W : World} {q : Nat} {S : List TR} {K : List (Nat × Obj)} (h : OQ w0 W q S K) (now : Int) (hl : S.length < 10000) (S' : List TR) (v : Value) (e1 : popS S now = S') (e2 : popV S now = v) :
    Calls Try.prog 21 #[.pointer (some ⟨q, 0, none⟩), .int .i64 now] W fun e w' => e = .returned v ∧ OQ w0 w' q S' K := by
  have := Pop_o h now hl
  rw [e1, e2] at this
  exact this

set_option maxRecDepth 100000 in
set_option maxHeartbeats 16000000 in
theorem works_any (w : World) : Calls Try.prog 8 #[] w fun e w' => e = .returned (.bool true) ∧ Below w.heap.size w w' := by
  go_enter Try.func8, Try.ntmps8
  go_upto_region 2 with (go_at_call 9; (with_reducible refine (New_o _).mono ?_); rintro e w1 ⟨q, rfl, hq⟩; have HQ0 := Lib.hid hq; clear hq)
  have D2 := Lib.hid (fun W (h : OQ w W q [] []) => show Calls Try.prog 19 #[.pointer (some ⟨q, 0, none⟩), .agg #[.int .i64 1, .int .u32 0, .int .i64 0], .int .i64 30] W (fun e w' => e = .returned (.tuple #[.int .i64 0, .bool false, .int .i64 0]) ∧ OQ w w' q [p30] []) from arm_c h p30 wf_p30 (by decide) [p30] 0 false rfl rfl)
  go_upto_region 3 with (first
    | (go_at_call 27; (with_reducible refine (period_any _).mono ?_); rintro e w2 ⟨rfl, hb⟩; have HQ1 := Lib.hid (HQ0.out.below hb); clear hb)
    | (go_at_call 19; (with_reducible refine (D2.out _ HQ1.out).mono ?_); rintro e w3 ⟨rfl, hq⟩; have HQ2 := Lib.hid hq; clear hq))
  clear D2
  have D3 := Lib.hid (fun W (h : OQ w W q [p30] []) => show Calls Try.prog 19 #[.pointer (some ⟨q, 0, none⟩), .agg #[.int .i64 3, .int .u32 167772160, .int .i64 8], .int .i64 20] W (fun e w' => e = .returned (.tuple #[.int .i64 0, .bool false, .int .i64 0]) ∧ OQ w w' q [r20, p30] []) from arm_c h r20 wf_r20 (by decide) [r20, p30] 0 false rfl rfl)
  go_upto_region 4 with (first
    | (go_at_call 28; (with_reducible refine (route_any _).mono ?_); rintro e w4 ⟨rfl, hb⟩; have HQ3 := Lib.hid (HQ2.out.below hb); clear hb)
    | (go_at_call 19; (with_reducible refine (D3.out _ HQ3.out).mono ?_); rintro e w5 ⟨rfl, hq⟩; have HQ4 := Lib.hid hq; clear hq))
  clear D3
  have D4 := Lib.hid (fun W (h : OQ w W q [r20, p30] []) => show Calls Try.prog 19 #[.pointer (some ⟨q, 0, none⟩), .agg #[.int .i64 2, .int .u32 0, .int .i64 0], .int .i64 20] W (fun e w' => e = .returned (.tuple #[.int .i64 0, .bool false, .int .i64 0]) ∧ OQ w w' q [q20, r20, p30] []) from arm_c h q20 wf_q20 (by decide) [q20, r20, p30] 0 false rfl rfl)
  go_upto_region 5 with (first
    | (go_at_call 29; (with_reducible refine (quiet_any _).mono ?_); rintro e w6 ⟨rfl, hb⟩; have HQ5 := Lib.hid (HQ4.out.below hb); clear hb)
    | (go_at_call 19; (with_reducible refine (D4.out _ HQ5.out).mono ?_); rintro e w7 ⟨rfl, hq⟩; have HQ6 := Lib.hid hq; clear hq))
  clear D4
  have D5 := Lib.hid (fun W (h : OQ w W q [q20, r20, p30] []) => show Calls Try.prog 26 #[.pointer (some ⟨q, 0, none⟩)] W (fun e w' => e = .returned (.tuple #[.agg #[.int .i64 2, .int .u32 0, .int .i64 0], .int .i64 20, .bool true]) ∧ Below W.heap.size W w') from Next_o h (by decide))
  go_upto_region 6 with (go_at_call 26; (with_reducible refine (D5.out _ HQ6.out).mono ?_); rintro e w8 ⟨rfl, hb⟩; have HQ7 := Lib.hid (HQ6.out.below hb); clear hb)
  have HQ8 := Lib.hid (HQ7.out.box (.cells #[.int .i64 2, .int .u32 0, .int .i64 0] 29))
  generalize w8.alloc (.cells #[.int .i64 2, .int .u32 0, .int .i64 0] 29) = X5 at *
  generalize w8.heap.size = B5 at *
  clear D5 HQ7
  have D6 := Lib.hid (fun W (h : OQ w W q [q20, r20, p30] [(B5, .cells #[.int .i64 2, .int .u32 0, .int .i64 0] 29)]) => show Calls Try.prog 19 #[.pointer (some ⟨q, 0, none⟩), .agg #[.int .i64 2, .int .u32 0, .int .i64 0], .int .i64 40] W (fun e w' => e = .returned (.tuple #[.int .i64 20, .bool true, .int .i64 0]) ∧ OQ w w' q [r20, p30, q40] [(B5, .cells #[.int .i64 2, .int .u32 0, .int .i64 0] 29)]) from arm_c h q40 wf_q40 (by decide) [r20, p30, q40] 20 true rfl rfl)
  go_upto_region 7 with (first
    | (go_at_call 29; (with_reducible refine (quiet_any _).mono ?_); rintro e w9 ⟨rfl, hb⟩; have HQ9 := Lib.hid (HQ8.out.below hb); clear hb)
    | (go_at_call 19; (with_reducible refine (D6.out _ HQ9.out).mono ?_); rintro e w10 ⟨rfl, hq⟩; have HQ10 := Lib.hid hq; clear hq))
  clear D6
  have D7 := Lib.hid (fun W (h : OQ w W q [r20, p30, q40] [(B5, .cells #[.int .i64 2, .int .u32 0, .int .i64 0] 29)]) => show Calls Try.prog 21 #[.pointer (some ⟨q, 0, none⟩), .int .i64 19] W (fun e w' => e = .returned (.tuple #[.agg #[.int .i64 0, .int .u32 0, .int .i64 0], .int .i64 0, .bool false]) ∧ OQ w w' q [r20, p30, q40] [(B5, .cells #[.int .i64 2, .int .u32 0, .int .i64 0] 29)]) from pop_c h 19 (by decide) [r20, p30, q40] (.tuple #[.agg #[.int .i64 0, .int .u32 0, .int .i64 0], .int .i64 0, .bool false]) rfl rfl)
  go_upto_region 8 with (go_at_call 21; (with_reducible refine (D7.out _ HQ10.out).mono ?_); rintro e w11 ⟨rfl, hq⟩; have HQ11 := Lib.hid hq; clear hq)
  have HQ12 := Lib.hid (HQ11.out.box (.cells #[.int .i64 0, .int .u32 0, .int .i64 0] 29))
  generalize w11.alloc (.cells #[.int .i64 0, .int .u32 0, .int .i64 0] 29) = X7 at *
  generalize w11.heap.size = B7 at *
  clear D7 HQ11
  have D8 := Lib.hid (fun W (h : OQ w W q [r20, p30, q40] [(B7, .cells #[.int .i64 0, .int .u32 0, .int .i64 0] 29), (B5, .cells #[.int .i64 2, .int .u32 0, .int .i64 0] 29)]) => show Calls Try.prog 21 #[.pointer (some ⟨q, 0, none⟩), .int .i64 20] W (fun e w' => e = .returned (.tuple #[.agg #[.int .i64 3, .int .u32 167772160, .int .i64 8], .int .i64 20, .bool true]) ∧ OQ w w' q [p30, q40] [(B7, .cells #[.int .i64 0, .int .u32 0, .int .i64 0] 29), (B5, .cells #[.int .i64 2, .int .u32 0, .int .i64 0] 29)]) from pop_c h 20 (by decide) [p30, q40] (.tuple #[.agg #[.int .i64 3, .int .u32 167772160, .int .i64 8], .int .i64 20, .bool true]) rfl rfl)
  go_upto_region 9 with (go_at_call 21; (with_reducible refine (D8.out _ HQ12.out).mono ?_); rintro e w12 ⟨rfl, hq⟩; have HQ13 := Lib.hid hq; clear hq)
  have HQ14 := Lib.hid (HQ13.out.box (.cells #[.int .i64 3, .int .u32 167772160, .int .i64 8] 29))
  generalize w12.alloc (.cells #[.int .i64 3, .int .u32 167772160, .int .i64 8] 29) = X8 at *
  generalize w12.heap.size = B8 at *
  clear D8 HQ13
  have D9 := Lib.hid (fun W (h : OQ w W q [p30, q40] [(B8, .cells #[.int .i64 3, .int .u32 167772160, .int .i64 8] 29), (B7, .cells #[.int .i64 0, .int .u32 0, .int .i64 0] 29), (B5, .cells #[.int .i64 2, .int .u32 0, .int .i64 0] 29)]) => show Calls Try.prog 21 #[.pointer (some ⟨q, 0, none⟩), .int .i64 50] W (fun e w' => e = .returned (.tuple #[.agg #[.int .i64 1, .int .u32 0, .int .i64 0], .int .i64 30, .bool true]) ∧ OQ w w' q [q40] [(B8, .cells #[.int .i64 3, .int .u32 167772160, .int .i64 8] 29), (B7, .cells #[.int .i64 0, .int .u32 0, .int .i64 0] 29), (B5, .cells #[.int .i64 2, .int .u32 0, .int .i64 0] 29)]) from pop_c h 50 (by decide) [q40] (.tuple #[.agg #[.int .i64 1, .int .u32 0, .int .i64 0], .int .i64 30, .bool true]) rfl rfl)
  go_upto_region 10 with (go_at_call 21; (with_reducible refine (D9.out _ HQ14.out).mono ?_); rintro e w13 ⟨rfl, hq⟩; have HQ15 := Lib.hid hq; clear hq)
  have HQ16 := Lib.hid (HQ15.out.box (.cells #[.int .i64 1, .int .u32 0, .int .i64 0] 29))
  generalize w13.alloc (.cells #[.int .i64 1, .int .u32 0, .int .i64 0] 29) = X9 at *
  generalize w13.heap.size = B9 at *
  clear D9 HQ15
  have HCell := Lib.hid (show ∀ W', Below X9.heap.size X9 W' → (W'.cell? ⟨B5, 0, none⟩ = some (.int .i64 2) ∧ W'.cell? ⟨B5, 1, none⟩ = some (.int .u32 0) ∧ W'.cell? ⟨B5, 2, none⟩ = some (.int .i64 0) ∧ W'.cell? ⟨B8, 0, none⟩ = some (.int .i64 3) ∧ W'.cell? ⟨B8, 1, none⟩ = some (.int .u32 167772160) ∧ W'.cell? ⟨B8, 2, none⟩ = some (.int .i64 8) ∧ W'.cell? ⟨B9, 0, none⟩ = some (.int .i64 1) ∧ W'.cell? ⟨B9, 1, none⟩ = some (.int .u32 0) ∧ W'.cell? ⟨B9, 2, none⟩ = some (.int .i64 0)) from fun W' h => by
    have hq := HQ16.out.below h
    have t5 : TBox W' B5 2 0 0 := hq.kp (B5, .cells #[.int .i64 2, .int .u32 0, .int .i64 0] 29) (by simp)
    have t8 : TBox W' B8 3 167772160 8 := hq.kp (B8, .cells #[.int .i64 3, .int .u32 167772160, .int .i64 8] 29) (by simp)
    have t9 : TBox W' B9 1 0 0 := hq.kp (B9, .cells #[.int .i64 1, .int .u32 0, .int .i64 0] 29) (by simp)
    exact ⟨t5.c0, t5.c1, t5.c2, t8.c0, t8.c1, t8.c2, t9.c0, t9.c1, t9.c2⟩)
  obtain ⟨a0, a1, a2, a3, a4, a5, a6, a7, a8⟩ := HCell.out _ (Below.refl _ _)
  have DL := Lib.hid (fun W h => Len_o (W := W) (w0 := w) (q := q) (S := [q40]) (K := [(B9, .cells #[.int .i64 1, .int .u32 0, .int .i64 0] 29), (B8, .cells #[.int .i64 3, .int .u32 167772160, .int .i64 8] 29), (B7, .cells #[.int .i64 0, .int .u32 0, .int .i64 0] 29), (B5, .cells #[.int .i64 2, .int .u32 0, .int .i64 0] 29)]) h)
  rw [show (([q40] : List TR).length : Int) = 1 from rfl] at DL
  simp only [List.append_eq, List.cons_append, List.nil_append]
  go_region_held3 (fun W' => W'.cell? ⟨B5, 0, none⟩ = some (.int .i64 2) ∧ W'.cell? ⟨B5, 1, none⟩ = some (.int .u32 0) ∧ W'.cell? ⟨B5, 2, none⟩ = some (.int .i64 0) ∧ W'.cell? ⟨B8, 0, none⟩ = some (.int .i64 3) ∧ W'.cell? ⟨B8, 1, none⟩ = some (.int .u32 167772160) ∧ W'.cell? ⟨B8, 2, none⟩ = some (.int .i64 8) ∧ W'.cell? ⟨B9, 0, none⟩ = some (.int .i64 1) ∧ W'.cell? ⟨B9, 1, none⟩ = some (.int .u32 0) ∧ W'.cell? ⟨B9, 2, none⟩ = some (.int .i64 0))
    (go_keep)
    (first
      | (go_at_call 29; (with_reducible refine (quiet_any _).mono ?_); rintro e v1 ⟨rfl, hb⟩; have hb1 := bthen (Below.refl X9.heap.size X9).drew hb; have HB1 := Lib.hid hb1; obtain ⟨b0, b1, b2, b3, b4, b5, b6, b7, b8⟩ := HCell.out _ hb1; clear hb hb1)
      | (go_at_call 28; (with_reducible refine (route_any _).mono ?_); rintro e v2 ⟨rfl, hb⟩; have hb1 := bthen HB1.out hb; have HB2 := Lib.hid hb1; obtain ⟨c0, c1, c2, c3, c4, c5, c6, c7, c8⟩ := HCell.out _ hb1; clear hb hb1)
      | (go_at_call 27; (with_reducible refine (period_any _).mono ?_); rintro e v3 ⟨rfl, hb⟩; have hb1 := bthen HB2.out hb; have HB3 := Lib.hid hb1; obtain ⟨d0, d1, d2, d3, d4, d5, d6, d7, d8⟩ := HCell.out _ hb1; clear hb hb1)
      | (go_at_call 15; (with_reducible refine (num_any _ _).mono ?_); rintro e v9 ⟨rfl, rfl⟩)
      | (go_at_call 23; (with_reducible refine (DL.out _ (HQ16.out.below HB3.out)).mono ?_); rintro e v4 ⟨rfl, rfl⟩))
  all_goals
    have HB4 := Lib.hid (bthen HQ16.out.bl HB3.out)
    have HNk := Lib.hid (fun W h => New_k w W [] h (fun p hp => by cases hp))
    clear HCell DL
    go_upto_region 13 with (go_at_call 9; (with_reducible refine (HNk.out _ HB4.out).mono ?_); rintro e w40 ⟨o, rfl, hq⟩; have HO0 := Lib.hid hq; clear hq)
    have hfd : ∀ W, (Instr.field 29 (.agg #[.int .i64 3, .int .u32 167772160, .int .i64 8]) 1).run Try.prog W = .ok (.agg #[.int .u32 167772160, .int .i64 8]) W := fun W => by kernel_rfl
    have A1 := Lib.hid (fun W (h : OQ w W o [] []) => ArmArg_o h 1 167772160 8 1 rfl)
    simp only [keyV] at A1
    go_upto_region 14 with (first
      | (go_at_call 28; (with_reducible refine (route_any _).mono ?_); rintro e w41 ⟨rfl, hb⟩; have HO1 := Lib.hid (HO0.out.below hb); clear hb)
      | (go_at_call 19; (with_reducible refine (A1.out _ HO1.out).mono ?_); rintro e w42 ⟨rfl, hb⟩; have HO2 := Lib.hid (HO1.out.below hb); clear hb))
    have A2 := Lib.hid (fun W (h : OQ w W o [] []) => ArmTime_o h 1 0 0 (-1) rfl (.inl (by decide)))
    simp only [keyV] at A2
    go_upto_region 15 with (first
      | (go_at_call 27; (with_reducible refine (period_any _).mono ?_); rintro e w43 ⟨rfl, hb⟩; have HO3 := Lib.hid (HO2.out.below hb); clear hb)
      | (go_at_call 19; (with_reducible refine (A2.out _ HO3.out).mono ?_); rintro e w44 ⟨rfl, hb⟩; have HO4 := Lib.hid (HO3.out.below hb); clear hb))
    have A3 := Lib.hid (fun W (h : OQ w W o [] []) => show Calls Try.prog 25 #[.pointer (some ⟨o, 0, none⟩), .agg #[.int .i64 1, .int .u32 0, .int .i64 0]] W (fun e w' => e = .returned (.tuple #[.int .i64 0, .bool false, .int .i64 0]) ∧ OQ w w' o [] []) from Cancel_o h 1 0 0 ⟨⟨by decide, by decide⟩, ⟨by decide, by decide⟩, ⟨by decide, by decide⟩⟩ rfl (by decide))
    go_upto_region 16 with (first
      | (go_at_call 27; (with_reducible refine (period_any _).mono ?_); rintro e w45 ⟨rfl, hb⟩; have HO5 := Lib.hid (HO4.out.below hb); clear hb)
      | (go_at_call 25; (with_reducible refine (A3.out _ HO5.out).mono ?_); rintro e w46 ⟨rfl, hq⟩; have HO6 := Lib.hid hq; clear hq))
    clear A1 A2 A3
    go_wp2_with (go_at_call 15; (with_reducible refine (num_any _ _).mono ?_); rintro e v9 ⟨rfl, rfl⟩)
    go_ret
    exact ⟨rfl, HO6.out.bl⟩
end Go.Proofs.Ytkigoihdmojpfaa
