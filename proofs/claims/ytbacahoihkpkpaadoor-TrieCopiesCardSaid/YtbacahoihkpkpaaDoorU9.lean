/- The law's act where it copies; every call; played. -/
import Derived.Test.YtbacahoihkpkpaaDoorU8
namespace Go.Proofs.YtbacahoihkpkpaaDoor
open Go.RowKit Go.Shelf Go.Maps

set_option maxRecDepth 100000 in
set_option maxHeartbeats 8000000 in
theorem act_copy (w0 : World) (q g : Nat) (t : TT) (v : Value) (wt a n x : Int) (w : World) (h : PW w0 w q t g v) (hw : wt < 0 ∨ 5 < wt) :
    Calls Tryd.prog 27 #[.pointer (some ⟨q, 0, none⟩), v, .agg #[.int .i64 wt, .int .u32 a, .int .i64 n, .int .i64 x]] w fun e w' => ActP w0 w w' q t g e := by
  have HPW := Lib.hid h
  obtain ⟨base, cap, rfl, _, _⟩ := h.rt.ex
  have t0 : (wt == 0) = false := by (simp; omega)
  have t1 : (wt == 1) = false := by (simp; omega)
  have t2 : (wt == 2) = false := by (simp; omega)
  have t3 : (wt == 3) = false := by (simp; omega)
  have t4 : (wt == 4) = false := by (simp; omega)
  have t5 : (wt == 5) = false := by (simp; omega)
  have HAB0 := Lib.hid (AB.start w (.slice base t.rows.length cap) wt a n x)
  have c0 := HAB0.out.b0.c
  have c1 := HAB0.out.a0
  clear h
  go_enter Tryd.func27, Tryd.ntmps27
  go_upto_region 1 with fail
  generalize (((w.alloc (.cells #[.slice base t.rows.length cap] 31)).alloc (.cells #[.int .i64 wt, .int .u32 a, .int .i64 n, .int .i64 x] 61)).alloc (.cells #[.slice none 0 0] 31)) = X at *
  go_upto_region 14 with fail
  have HCp := Lib.hid (fun W (hb : Below w.heap.size w W) => Copy_any q t W (HPW.out.tw.below hb).st)
  have d2 := HAB0.out.b2.c
  have d3 := HAB0.out.b2.f
  have hz := HAB0.out.sz
  clear c1 t0 t1 t2 t3 t4 t5
  go_region_held3 (fun w' => w'.cell? ⟨w.heap.size, 0, none⟩ = some (.slice base t.rows.length cap))
    (first | exact (set_far (by omega)).trans c0 | go_keep)
    ((go_at_call 31; (with_reducible refine (HCp.out _ (HAB0.out.bl.drew)).mono ?_); rintro e2 w2 ⟨q', t', rfl, hst, hrows, hge, hb⟩; have HSt := Lib.hid hst; have HRw := Lib.hid hrows; have HGe := Lib.hid hge; have HB := Lib.hid (bthen (Below.refl _ X).drew hb); clear c0 d2 d3; have hab := HAB0.out.below (bthen (Below.refl _ X).drew hb); have c0 := hab.b0.c; have d2 := hab.b2.c; have d3 := hab.b2.f; have HAB := Lib.hid hab; clear hst hrows hge hb hab))
  all_goals
    go_wp2_with fail
    have h0 := HPW.out.tw.below (HAB.out.bl)
    have hw0 := HPW.out.tw.bl.size
    have hXs := HAB0.out.bl.size
    have hdr : X.drew.heap.size = X.heap.size := rfl
    have hA : Acted w0 w w2 q t g q' t' g (.agg #[.slice base t.rows.length cap]) := by
      refine ⟨⟨⟨HSt.out, h0.rel, h0.bl, fun c hc => ?_⟩, by rw [HRw.out]; exact HPW.out.rt.below HAB.out.bl, fun hm => ?_⟩, KB.of_below HAB.out.bl, fun c hc => .inr ?_, .inl rfl⟩
      · have := HGe.out c hc; omega
      · have := HGe.out g hm; have := HPW.out.rt.lt; omega
      · have := HGe.out c hc; omega
    have hA2 := hA.set HPW.out.tw.bl.size (B := w.heap.size + 1 + 1) (by omega) (fun hm => by have := HGe.out _ hm; omega) (by have := HPW.out.rt.lt; omega) (by omega) 0 (.slice base t.rows.length cap)
    have hq : OneB (w2.setCell ⟨w.heap.size + 1 + 1, 0, none⟩ (.slice base t.rows.length cap)) (w.heap.size + 1 + 1) (.slice base t.rows.length cap) 31 := HAB.out.b2.set _
    generalize (w2.setCell ⟨w.heap.size + 1 + 1, 0, none⟩ (.slice base t.rows.length cap)) = V at *
    have q0 := hq.c
    exact bodyPost_ret (v := .tuple #[.pointer (some ⟨q', 0, none⟩), .agg #[.slice base t.rows.length cap], .bool true]) (by simp [results, Tryd.results27, go_sem, q0]) rfl ⟨_, t', g, _, rfl, hA2, by have h1 := HRw.out; rw [h1]; omega⟩

theorem act_any (w0 : World) (q g : Nat) (t : TT) (v : Value) (wt a n x : Int) (w : World) (h : PW w0 w q t g v) (a0 : 0 ≤ a) (a1 : a < 4294967296) (hl : t.rows.length < 500) :
    Calls Tryd.prog 27 #[.pointer (some ⟨q, 0, none⟩), v, .agg #[.int .i64 wt, .int .u32 a, .int .i64 n, .int .i64 x]] w fun e w' => ActP w0 w w' q t g e := by
  by_cases h1 : wt < 0 ∨ 5 < wt
  · exact act_copy w0 q g t v wt a n x w h h1
  · by_cases h2 : wt ≤ 3
    · exact act_put w0 q g t v wt a n x w h (by omega) a0 a1 hl
    · exact act_take w0 q g t v wt a n x w h (by omega) a0 a1 hl
end Go.Proofs.YtbacahoihkpkpaaDoor
