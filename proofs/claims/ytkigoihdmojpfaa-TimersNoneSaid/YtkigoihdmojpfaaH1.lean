/- TimersNone: the walk. -/
import Derived.Test.YtkigoihdmojpfaaG8
namespace Go.Proofs.Ytkigoihdmojpfaa
open Go.RowKit
open Go.Sort (grow)

set_option maxRecDepth 100000 in
set_option maxHeartbeats 4000000 in
theorem Due_nil (k a n : Int) (w : World) : Calls Try.prog 13 #[.pointer none, keyV k a n] w fun e w' => e = .returned (.tuple #[.int .i64 0, .bool false]) ∧ Below w.heap.size w w' := by
  unfold keyV
  go_enter Try.func13, Try.ntmps13
  go_wp2_with (go_at_call 35; (with_reducible refine (none_nil _).mono ?_); rintro e w' ⟨rfl, rfl⟩)
  exact bodyPost_ret (v := .tuple #[.int .i64 0, .bool false]) (by simp [results, Try.results13, go_sem]) rfl ⟨rfl, below1 _ _⟩
theorem Pop_nil (now : Int) (w : World) : Calls Try.prog 21 #[.pointer none, .int .i64 now] w fun e w' => e = .returned zeroT ∧ Below w.heap.size w w' :=
  Pop_no _ 0 0 0 0 false now w (fun W _ => Next_nil W) (.inl rfl)

/-- the box of a call -/
structure XB (w W : World) (wt k a n d : Int) : Prop where
  b0 : W.heap[w.heap.size]? = some (.cells #[.int .i64 wt, .int .i64 k, .int .u32 a, .int .i64 n, .int .i64 d] 31 (0, 0))
  bl : Below w.heap.size w W
section
variable {w W : World} {wt k a n d : Int} (h : XB w W wt k a n d)
include h
theorem XB.lt : w.heap.size < W.heap.size := (Array.getElem?_eq_some_iff.1 h.b0).1
theorem XB.below {W' : World} (hb : Below W.heap.size W W') : XB w W' wt k a n d := ⟨(hb.block _ h.lt).trans h.b0, bthen h.bl hb⟩
theorem XB.c1 : W.cell? ⟨w.heap.size, 1, none⟩ = some (.int .i64 k) := by simp [World.cell?, h.b0]
theorem XB.c2 : W.cell? ⟨w.heap.size, 2, none⟩ = some (.int .u32 a) := by simp [World.cell?, h.b0]
theorem XB.c3 : W.cell? ⟨w.heap.size, 3, none⟩ = some (.int .i64 n) := by simp [World.cell?, h.b0]
theorem XB.c4 : W.cell? ⟨w.heap.size, 4, none⟩ = some (.int .i64 d) := by simp [World.cell?, h.b0]
end
theorem XB.start (w : World) (wt k a n d : Int) : XB w (w.alloc (.cells #[.int .i64 wt, .int .i64 k, .int .u32 a, .int .i64 n, .int .i64 d] 31)) wt k a n d :=
  ⟨heap_alloc_new w _, below1 _ _⟩

set_option maxRecDepth 100000 in
set_option maxHeartbeats 8000000 in
theorem TimersNone_any (wt k a n d : Int) (w : World) :
    Calls Try.prog 7 #[.agg #[.int .i64 wt, .int .i64 k, .int .u32 a, .int .i64 n, .int .i64 d]] w fun e w' => e = .returned (.bool true) ∧ Below w.heap.size w w' := by
  have HX0 := Lib.hid (XB.start w wt k a n d)
  have HA := Lib.hid (fun W => Arm_nil k a n d W)
  have HC := Lib.hid (fun W => Cancel_nil k a n W)
  have HD := Lib.hid (fun W => Due_nil k a n W)
  have HN := Lib.hid (fun W => Next_nil W)
  have HP := Lib.hid (fun W => Pop_nil d W)
  have HR := Lib.hid (fun W (h : 0 < W.heap.size) => show Calls Try.prog 12 #[.pointer none, .agg #[.slice none 0 0], .int .i64 1] W (fun e w' => e = .returned (.bool true) ∧ Below W.heap.size W w') from rowsL_any (.pointer none) [] none 0 0 1 W (by simp) (fun W' _ => All_nil W') (SL.nil0 h 0))
  unfold keyV at HA HC HD
  unfold zeroT at HN HP
  go_enter Try.func7, Try.ntmps7
  go_upto_region 2 with fail
  generalize w.alloc (.cells #[.int .i64 wt, .int .i64 k, .int .u32 a, .int .i64 n, .int .i64 d] 31) = X at *
  have c1 := HX0.out.c1
  have c2 := HX0.out.c2
  have c3 := HX0.out.c3
  have c4 := HX0.out.c4
  go_upto_region 3 with (go_at_call 19; (with_reducible refine (HA.out _).mono ?_); rintro e w1 ⟨rfl, hb⟩; have HX1 := Lib.hid (HX0.out.below hb); clear c1 c2 c3 c4 hb; have c1 := HX1.out.c1; have c2 := HX1.out.c2; have c3 := HX1.out.c3)
  go_upto_region 4 with (go_at_call 25; (with_reducible refine (HC.out _).mono ?_); rintro e w2 ⟨rfl, hb⟩; have HX2 := Lib.hid (HX1.out.below hb); clear c1 c2 c3 hb; have c1 := HX2.out.c1; have c2 := HX2.out.c2; have c3 := HX2.out.c3)
  go_upto_region 5 with (go_at_call 13; (with_reducible refine (HD.out _).mono ?_); rintro e w3 ⟨rfl, hb⟩; have HX3 := Lib.hid (HX2.out.below hb); clear c1 c2 c3 hb)
  go_upto_region 6 with (go_at_call 26; (with_reducible refine (HN.out _).mono ?_); rintro e w4 ⟨rfl, hb⟩; have HX4 := Lib.hid ((HX3.out.below hb).below (below1 _ (.cells #[.int .i64 0, .int .u32 0, .int .i64 0] 29))); clear hb)
  generalize w4.alloc (.cells #[.int .i64 0, .int .u32 0, .int .i64 0] 29) = X4 at *
  have c4 := HX4.out.c4
  go_upto_region 7 with (go_at_call 21; (with_reducible refine (HP.out _).mono ?_); rintro e w5 ⟨rfl, hb⟩; have HX5 := Lib.hid ((HX4.out.below hb).below (below1 _ (.cells #[.int .i64 0, .int .u32 0, .int .i64 0] 29))); clear hb c4)
  generalize w5.alloc (.cells #[.int .i64 0, .int .u32 0, .int .i64 0] 29) = X5 at *
  have HZ := Lib.hid (show 0 < X5.heap.size by have := HX5.out.lt; omega)
  go_wp2_with (first
    | (go_at_call 15; (with_reducible refine (num_any _ _).mono ?_); rintro e w9 ⟨rfl, rfl⟩)
    | (go_at_call 12; (with_reducible refine (HR.out _ HZ.out).mono ?_); rintro e w6 ⟨rfl, hb⟩; have HX6 := Lib.hid (HX5.out.below hb); clear hb)
    | (go_at_call 23; (with_reducible refine (Len_nil _).mono ?_); rintro e w9 ⟨rfl, rfl⟩)
    | (go_at_call 24; (with_reducible refine (Copy_nil _).mono ?_); rintro e w9 ⟨rfl, rfl⟩)
    | (go_at_call 9; (with_reducible refine (New_o _).mono ?_); rintro e w7 ⟨q, rfl, hq⟩; have HQ := Lib.hid hq; have hqu := hq.ex; obtain ⟨F, hqu, _⟩ := hqu; have HQu := Lib.hid hqu; clear hq hqu)
    | (go_at_call 20; (with_reducible refine (Same_nil _).mono ?_); rintro e w9 ⟨rfl, rfl⟩)
    | (go_at_call 20; (with_reducible refine (Same_half _ _ _ _ HQu.out).mono ?_); rintro e w9 ⟨rfl, rfl⟩)
    | (go_at_call 8; (with_reducible refine (works_any _).mono ?_); rintro e w8 ⟨rfl, hb⟩; have HB8 := Lib.hid hb; clear hb)
    | fail)
  go_ret
  exact ⟨rfl, bthen (bthen HX6.out.bl HQ.out.bl) HB8.out⟩
end Go.Proofs.Ytkigoihdmojpfaa
