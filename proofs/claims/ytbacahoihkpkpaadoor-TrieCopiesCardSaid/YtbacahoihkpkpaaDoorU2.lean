/- The reference: Take. -/
import Derived.Test.YtbacahoihkpkpaaDoorU0
import Derived.Test.YtbacahoihkpkpaaDoorU1
import Derived.Deep.RegionHeld3
import Derived.Deep.AppendLies
import Derived.Deep.DeepCutAuto
import Derived.Deep.CutBlock
import Derived.Outline
import Derived.IntWalk
namespace Go.Proofs.YtbacahoihkpkpaaDoor
open Go.RowKit Go.Shelf Go.Maps

theorem info37 : (Tryd.prog.info? 37).map (fun i => (i.zero, i.size, i.bytes)) = some (some (.agg #[.int .u32 0, .int .i64 0, .int .i64 0]), 3, 24) := by kernel_rfl
abbrev rtObj (base : Option Addr) (len cap : Nat) : Obj := .cells #[.slice base len cap] 31
/-- the three boxes of Put and Take: the trie, the prefix, the result -/
structure TB (w W : World) (v : Value) (a n : Int) (v' : Value) : Prop where
  b0 : OneB W w.heap.size v 31
  b1 : PBox W (w.heap.size + 1) a n
  b2 : OneB W (w.heap.size + 1 + 1) v' 31
  bl : Below w.heap.size w W
theorem TB.start (w : World) (v : Value) (a n : Int) (v' : Value) : TB w (((w.alloc (.cells #[v] 31)).alloc (.cells #[.int .u32 a, .int .i64 n] 26)).alloc (.cells #[v'] 31)) v a n v' := by
  refine ⟨((OneB.new w v 31).alloc _).alloc _, ?_, ?_, (((Below.refl _ _).alloc (Nat.le_refl _) _).alloc (by simp) _).alloc (by simp; omega) _⟩
  · have := (PBox.new (w.alloc (.cells #[v] 31)) a n).alloc (.cells #[v'] 31)
    simpa using this
  · have := OneB.new ((w.alloc (.cells #[v] 31)).alloc (.cells #[.int .u32 a, .int .i64 n] 26)) v' 31
    simpa using this
theorem TB.below {w W W' : World} {v : Value} {a n : Int} {v' : Value} (h : TB w W v a n v') (hb : Below W.heap.size W W') : TB w W' v a n v' := ⟨h.b0.below hb, h.b1.below hb, h.b2.below hb, bthen h.bl hb⟩
theorem TB.set {w W : World} {v : Value} {a n : Int} {v' : Value} (h : TB w W v a n v') (u : Value) : TB w (W.setCell ⟨w.heap.size + 1 + 1, 0, none⟩ u) v a n u :=
  ⟨h.b0.other (by omega), h.b1.other (by omega), h.b2.set u, h.bl.setCell (p := ⟨w.heap.size + 1 + 1, 0, none⟩) (by simp; omega) _⟩
theorem TB.sz {w W : World} {v : Value} {a n : Int} {v' : Value} (h : TB w W v a n v') : w.heap.size + 1 + 1 < W.heap.size := h.b2.lt

set_option maxRecDepth 100000 in
set_option maxHeartbeats 4000000 in
theorem rTake_arg (v : Value) (g : Nat) (L : List (Key × Int)) (a n : Int) (w : World) (hS : RT w g v L) (a0 : 0 ≤ a) (a1 : a < 4294967296) (hr : rightB a n = false) :
    Calls Tryd.prog 51 #[v, .agg #[.int .u32 a, .int .i64 n]] w fun e w' => e = .returned (.tuple #[v, .int .i64 0, .bool false, .int .i64 2]) ∧ RT w' g v L ∧ Below w.heap.size w w' := by
  have HS0 := Lib.hid hS
  obtain ⟨base, cap, rfl, _, _⟩ := hS.ex
  have HT0 := Lib.hid (TB.start w (.slice base L.length cap) a n (.slice none 0 0))
  have HK := Lib.hid (fun W => rRight_any a n W a0 a1)
  rw [hr] at HK
  clear hr hS
  go_enter Tryd.func51, Tryd.ntmps51
  go_upto_region 2 with (go_at_call 40; with_reducible refine (HK.out _).mono ?_; rintro e w1 ⟨rfl, hb⟩; have HT := Lib.hid (HT0.out.below hb); have d0 := HT.out.b0.c; have e0 := HT.out.b2.c; have e1 := HT.out.b2.f; clear hb)
  go_wp2_with fail
  have hT := HT.out.set (.slice base L.length cap)
  generalize (w1.setCell ⟨w.heap.size + 1 + 1, 0, none⟩ (.slice base L.length cap)) = V at *
  have c0 := hT.b2.c
  exact bodyPost_ret (v := .tuple #[.agg #[.slice base L.length cap], .int .i64 0, .bool false, .int .i64 2]) (by simp [results, Tryd.results51, go_sem, c0]) rfl ⟨rfl, HS0.out.below hT.bl, hT.bl⟩

set_option maxRecDepth 100000 in
set_option maxHeartbeats 4000000 in
theorem rTake_no (v : Value) (g : Nat) (L : List (Key × Int)) (a n : Int) (w : World) (hS : RT w g v L) (hl : L.length ≤ 1000000) (a0 : 0 ≤ a) (a1 : a < 4294967296) (hr : rightB a n = true) (hi : atI a n L = none) :
    Calls Tryd.prog 51 #[v, .agg #[.int .u32 a, .int .i64 n]] w fun e w' => e = .returned (.tuple #[v, .int .i64 0, .bool false, .int .i64 0]) ∧ RT w' g v L ∧ Below w.heap.size w w' := by
  have HS0 := Lib.hid hS
  have HA := Lib.hid (fun W (h : RT W g v L) => rAt_any v g L a n W h hl)
  rw [hi] at HA
  obtain ⟨base, cap, rfl, _, _⟩ := hS.ex
  have HT0 := Lib.hid (TB.start w (.slice base L.length cap) a n (.slice none 0 0))
  have HK := Lib.hid (fun W => rRight_any a n W a0 a1)
  rw [hr] at HK
  dsimp only [atV] at HA
  clear hr hS hi
  go_enter Tryd.func51, Tryd.ntmps51
  go_upto_region 5 with (first
    | (go_at_call 40; with_reducible refine (HK.out _).mono ?_; rintro e w1 ⟨rfl, hb⟩; have HT := Lib.hid (HT0.out.below hb); have d0 := HT.out.b0.c; have d1 := HT.out.b1.c0; have d2 := HT.out.b1.c1; clear hb)
    | (go_at_call 29; with_reducible refine (HA.out _ (HS0.out.below HT.out.bl)).mono ?_; rintro e w1 ⟨rfl, hb⟩; have HT := Lib.hid (HT.out.below hb); clear d0 d1 d2; have d0 := HT.out.b0.c; have e0 := HT.out.b2.c; have e1 := HT.out.b2.f; clear hb)
    | fail)
  go_wp2_with fail
  have hT := HT.out.set (.slice base L.length cap)
  generalize (w1.setCell ⟨w.heap.size + 1 + 1, 0, none⟩ (.slice base L.length cap)) = V at *
  have c0 := hT.b2.c
  exact bodyPost_ret (v := .tuple #[.agg #[.slice base L.length cap], .int .i64 0, .bool false, .int .i64 0]) (by simp [results, Tryd.results51, go_sem, c0]) rfl ⟨rfl, HS0.out.below hT.bl, hT.bl⟩
end Go.Proofs.YtbacahoihkpkpaaDoor
