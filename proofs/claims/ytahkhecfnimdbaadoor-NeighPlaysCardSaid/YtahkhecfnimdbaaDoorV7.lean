/- The reference: Hear where there is no room. -/
import Derived.Test.YtahkhecfnimdbaaDoorV6
namespace Go.Proofs.YtahkhecfnimdbaaDoor
open Go.RowKit Go.Maps

set_option maxHeartbeats 4000000 in
set_option maxRecDepth 100000 in
theorem rHear_full (ad : Addr) (g cap : Nat) (T : List Rec) (now lost f a nw bad : Int) (w : World) (hS : SL w (some ad) g T) (hlen : T.length < 1000) (a0 : 0 ≤ a) (a1 : a < 4294967296) (hB : argB f a bad = true)
    (n0 : 0 ≤ now) (n1 : now ≤ nw) (n2 : nw ≤ 4611686018427387904) (_hb1 : bad ≤ 9223372036854775807) (hi : atI f a T = none) (h64 : 64 ≤ T.length) (l0 : 0 ≤ lost) (l1 : lost ≤ 2147483647) :
    Calls Tryd.prog 34 #[RN (some ad) T.length cap now lost, .int .i64 f, .int .u32 a, .int .i64 nw, .int .i64 bad] w
      fun e w' => (∃ v, e = .returned (.tuple #[v, .int .i64 3]) ∧ RNew w w' v T nw (addC lost 1)) ∧ Below w.heap.size w w' := by
  have K := Lib.hid (fun W => rKind_any a W a0 a1)
  have HX0 := Lib.hid (HBx.start w (.slice (some ad) T.length cap) (.int .i64 now) (.int .i64 lost))
  obtain ⟨g1, g2, g3, g4⟩ := argB_iff.1 hB
  have t1 : decide (f < 0) = false := by simp; omega
  have t2 : decide (15 < f) = false := by simp; omega
  have t3 : (kindI a != 6) = false := by simp [g3]
  have t4 : decide (bad < 0) = false := by simp; omega
  have h5 := timeB_of n0 n1 n2
  have t5 : decide (nw < now) = false := by simp; omega
  obtain ⟨i0, hii, hz0, hz1, hz2⟩ := info_parts info40
  have hN : atN f a T = -1 := by unfold atN; rw [hi]
  have HS := Lib.hid hS
  clear g1 g2 g3 hB hS hi
  go_enter Tryd.func34, Tryd.ntmps34
  go_upto_region 6 with (first
      | (go_at_call 44; refine (K.out _).mono ?_; rintro e w1 ⟨rfl, hb⟩; have hx := HX0.out.below hb; have d0 := hx.d0; have d1 := hx.d1; have d2 := hx.d2; have e0 := hx.e0; have e1 := hx.e1; have e2 := hx.e2; have f0 := hx.f0; have f1 := hx.f1; have HX := Lib.hid hx; clear hx hb)
      | (go_at_call 45; refine (Time_any _ _).mono ?_; rw [h5]; rintro e w2 ⟨rfl, rfl⟩)
      | fail)
  clear d0 d1 d2 e0 e1 e2 f0 f1
  have hx5 : HBx w (w1.setCell ⟨w.heap.size, 1, none⟩ (.int .i64 nw)) (.slice (some ad) T.length cap) (.int .i64 nw) (.int .i64 lost) := HX.out.set 1 (.int .i64 nw)
  generalize w1.setCell ⟨w.heap.size, 1, none⟩ (.int .i64 nw) = W5 at *
  clear HX
  have d0 := hx5.d0
  have y0 : w.heap.size < W5.heap.size := by have := hx5.sz; omega
  have hs5 : SL W5 (some ad) g T := HS.out.below hx5.bl
  have hrow0 : (W5.alloc (.cells #[] 40)).ownsRow W5.heap.size 40 5 (.slice (some ⟨W5.heap.size, 0, none⟩) 0 0) 0 [] := World.ownsRow_made W5 #[] 0 (Nat.le_refl _) (by unfold maxLen; omega) rfl
  have hnews := sl_news (hs5.below (below_k W5 (.cells #[] 40))) ad rfl
  have HX5 := Lib.hid hx5
  have HS5 := Lib.hid hs5
  clear hx5 hs5
  go_upto_region 7 with (at_builtin; refine wpList_append_own _ rfl _ _ 45 rfl W5.heap.size 40 i0 (.agg #[.int .i64 0, .int .u32 0, .int .i64 0, .int .i64 0, .int .i64 0]) 5 40 Tryd.underlying45 hii hz0 hz1 hz2 rfl (by decide) _ _ _ rfl hrow0 ad T.length cap (nCs T) rfl (nCs_len T) hnews (nCs_one T) (by unfold maxLen; omega) (by omega) (by simp) ?_; intro v' w3 hown' hgrow hnil)
  have hb53 : Below W5.heap.size W5 w3 := ((Below.refl _ W5).alloc (Nat.le_refl _) (.cells #[] 40)).grown hgrow (by simp) (fun k e => Nat.le_of_eq (Option.some.inj e))
  rw [Nat.zero_add, List.nil_append] at hown'
  obtain ⟨gl, cl, cur, rfl, hgl, hcur⟩ : ∃ (gl cl : Nat) (cur : Array Value), v' = .slice (some ⟨gl, 0, none⟩) T.length cl ∧ W5.heap.size ≤ gl ∧ w3.heap[gl]? = some (.cells cur 40 (0, 0)) := by
    rcases hown'.2 with ⟨_, h0⟩ | ⟨gl, cl, cur, h1, h2, h3, _⟩
    · omega
    · exact ⟨gl, cl, cur, h1, h2, h3⟩
  have hx3 := HX5.out.below hb53
  have hx4 := hx3.below (below_k w3 (rnObj (some ad) T.length cap nw lost))
  have hA := At_any (some ad) g cap T nw lost f a w3 (HS5.out.below hb53) (by omega)
  rw [hN] at hA
  have HA := Lib.hid hA
  have hs4 := (HS5.out.below hb53).below (below_k w3 (rnObj (some ad) T.length cap nw lost))
  have p0 := hx3.d0
  have p1 := hx3.d1
  have p2 := hx3.d2
  have HX4 := Lib.hid hx4
  have HS4 := Lib.hid hs4
  clear hA hx3 hx4 hs4 hcur hown' hgrow hnil hnews hrow0 hb53 d0
  have t6 : decide ((64 : Int) ≤ (T.length : Int)) = true := by simp; omega
  go_upto_region 14 with (go_at_call 19; refine HA.out.mono ?_; rintro e w4 ⟨rfl, rfl⟩)
  generalize w3.alloc (rnObj (some ad) T.length cap nw lost) = w4 at *
  clear p0 p1 p2
  have d0 := HX4.out.d0
  have d1 := HX4.out.d1
  have d2 := HX4.out.d2
  have e0 := HX4.out.e0
  have e1 := HX4.out.e1
  have e2 := HX4.out.e2
  have f0 := HX4.out.f0
  have f1 := HX4.out.f1
  go_wp2_with (go_at_call 46; refine (sum_any lost 1 _ l0 l1 (by omega) (by omega)).mono ?_; rintro e w' ⟨rfl, rfl⟩)
  have hx7 : HBx w (w4.setCell ⟨w.heap.size, 2, none⟩ (.int .i64 (addC lost 1))) (.slice (some ad) T.length cap) (.int .i64 nw) (.int .i64 (addC lost 1)) := HX4.out.set 2 _
  have hgw := HS.out.lt
  have ne0 : g ≠ w.heap.size := by omega
  have ne1 : g ≠ w.heap.size + 1 := by omega
  have hs7 := HS4.out.of_block (Below.heap_setCell w4 ⟨w.heap.size, 2, none⟩ (.int .i64 (addC lost 1)) g ne0)
  generalize w4.setCell ⟨w.heap.size, 2, none⟩ (.int .i64 (addC lost 1)) = w7 at *
  obtain ⟨c0, c1, c2⟩ := cells3_of (hx7.out (.slice (some ad) T.length cap) (.int .i64 nw) (.int .i64 (addC lost 1)))
  exact bodyPost_ret (v := .tuple #[RN (some ad) T.length cap nw (addC lost 1), .int .i64 3]) (by simp [results, Tryd.results34, go_sem, c0, c1, c2]) rfl ⟨⟨_, rfl, some ad, g, cap, rfl, hs7.of_block (hx7.outO _ _ _ ne1)⟩, hx7.outB _ _ _⟩
end Go.Proofs.YtahkhecfnimdbaaDoor
