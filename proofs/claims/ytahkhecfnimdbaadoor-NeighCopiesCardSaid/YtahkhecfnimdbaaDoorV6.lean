/- The reference: Hear of a neighbour that is there. -/
import Derived.Test.YtahkhecfnimdbaaDoorV5
import Derived.Deep.DeepCutAuto
import Derived.Outline
import Derived.Deep.CutBlock
namespace Go.Proofs.YtahkhecfnimdbaaDoor
open Go.RowKit Go.Maps

theorem timeB_of {t n : Int} (h0 : 0 ≤ n) (h1 : n ≤ t) (h2 : t ≤ 4611686018427387904) : timeB t = true := by
  unfold timeB
  simp
  omega
theorem sl_news {W : World} {base : Option Addr} {g : Nat} {T : List Rec} (h : SL W base g T) (ad : Addr) (hb : base = some ad) : ∀ (j : Nat) (u : Value), (nCs T)[j]? = some u → W.cell? (ad.add j) = some u := by
  intro j u hj
  have hlen : ∀ L : List Rec, (nCs L).length = L.length * 5 := fun L => by
    induction L with
    | nil => rfl
    | cons q L ih =>
      have e : nCs (q :: L) = .int .i64 q.face :: .int .u32 q.addr :: .int .i64 q.last :: .int .i64 q.good :: .int .i64 q.bad :: nCs L := by simp [nCs, nC]
      rw [e]
      simp [ih]
      omega
  have hjl := (List.getElem?_eq_some_iff.1 hj).1
  rw [hlen] at hjl
  obtain ⟨i, c, hc, rfl⟩ : ∃ i c, c < 5 ∧ j = i * 5 + c := ⟨j / 5, j % 5, by omega, by omega⟩
  have hi : i < T.length := by omega
  obtain ⟨r, hr⟩ : ∃ r, T[i]? = some r := ⟨_, List.getElem?_eq_getElem hi⟩
  obtain ⟨e, z0, z1, z2, z3, z4⟩ := h.row i r hr
  rw [hb] at e
  obtain rfl := Option.some.inj e
  obtain ⟨k0, k1, k2, k3, k4⟩ := nCs_at hr
  have hadd : (⟨g, 0, none⟩ : Addr).add (i * 5 + c) = ⟨g, i * 5 + c, none⟩ := by unfold Addr.add; split <;> simp_all
  rw [hadd]
  have : c = 0 ∨ c = 1 ∨ c = 2 ∨ c = 3 ∨ c = 4 := by omega
  rcases this with rfl | rfl | rfl | rfl | rfl
  · rw [Nat.add_zero] at hj ⊢; rw [k0] at hj; cases hj; exact z0
  · rw [k1] at hj; cases hj; exact z1
  · rw [k2] at hj; cases hj; exact z2
  · rw [k3] at hj; cases hj; exact z3
  · rw [k4] at hj; cases hj; exact z4
theorem nCs_len (L : List Rec) : (nCs L).length = L.length * 5 := by
  induction L with
  | nil => rfl
  | cons q L ih =>
    have e : nCs (q :: L) = .int .i64 q.face :: .int .u32 q.addr :: .int .i64 q.last :: .int .i64 q.good :: .int .i64 q.bad :: nCs L := by simp [nCs, nC]
    rw [e]
    simp [ih]
    omega
theorem nCs_one (L : List Rec) : ∀ u ∈ nCs L, u.oneCell' = true := by
  intro u hu
  unfold nCs at hu
  obtain ⟨r, _, hr⟩ := List.mem_flatMap.1 hu
  simp [nC] at hr
  rcases hr with rfl | rfl | rfl | rfl | rfl <;> rfl

theorem cs_same {W : World} {b o : Nat} {u v : Value} (h : W.cell? ⟨b, o, none⟩ = some u) : (W.setCell ⟨b, o, none⟩ v).cell? ⟨b, o, none⟩ = some v := World.cell?_setCell_same' _ _ _ (by rw [h]; rfl)
theorem cs_other {W : World} {b o o' : Nat} {v : Value} (h : o ≠ o') : (W.setCell ⟨b, o, none⟩ v).cell? ⟨b, o', none⟩ = W.cell? ⟨b, o', none⟩ := by
  apply World.cell?_setCell_other
  intro e
  exact h (by injection e)
theorem sl_set {W : World} {g i : Nat} {T : List Rec} {r : Rec} {f a : Int} {x y z : Int} (h : SL W (some ⟨g, 0, none⟩) g T) (hr : T[i]? = some r) (ha : r.face = f ∧ r.addr = a) :
    SL (((W.setCell ⟨g, i * 5 + 2, none⟩ (.int .i64 x)).setCell ⟨g, i * 5 + 3, none⟩ (.int .i64 y)).setCell ⟨g, i * 5 + 4, none⟩ (.int .i64 z)) (some ⟨g, 0, none⟩) g (T.set i ⟨f, a, x, y, z⟩) := by
  obtain ⟨_, z0, z1, z2, z3, z4⟩ := h.row i r hr
  have hi : i < T.length := (List.getElem?_eq_some_iff.1 hr).1
  have ho : ∀ o, o ≠ i * 5 + 2 → o ≠ i * 5 + 3 → o ≠ i * 5 + 4 → (((W.setCell ⟨g, i * 5 + 2, none⟩ (.int .i64 x)).setCell ⟨g, i * 5 + 3, none⟩ (.int .i64 y)).setCell ⟨g, i * 5 + 4, none⟩ (.int .i64 z)).cell? ⟨g, o, none⟩ = W.cell? ⟨g, o, none⟩ := fun o h2 h3 h4 => by
    rw [cs_other (by omega), cs_other (by omega), cs_other (by omega)]
  have q2 : (((W.setCell ⟨g, i * 5 + 2, none⟩ (.int .i64 x)).setCell ⟨g, i * 5 + 3, none⟩ (.int .i64 y)).setCell ⟨g, i * 5 + 4, none⟩ (.int .i64 z)).cell? ⟨g, i * 5 + 2, none⟩ = some (.int .i64 x) := by
    rw [cs_other (by omega), cs_other (by omega)]
    exact cs_same z2
  have q3 : (((W.setCell ⟨g, i * 5 + 2, none⟩ (.int .i64 x)).setCell ⟨g, i * 5 + 3, none⟩ (.int .i64 y)).setCell ⟨g, i * 5 + 4, none⟩ (.int .i64 z)).cell? ⟨g, i * 5 + 3, none⟩ = some (.int .i64 y) := by
    rw [cs_other (by omega)]
    exact cs_same (u := .int .i64 r.good) (by rw [cs_other (by omega)]; exact z3)
  have q4 : (((W.setCell ⟨g, i * 5 + 2, none⟩ (.int .i64 x)).setCell ⟨g, i * 5 + 3, none⟩ (.int .i64 y)).setCell ⟨g, i * 5 + 4, none⟩ (.int .i64 z)).cell? ⟨g, i * 5 + 4, none⟩ = some (.int .i64 z) :=
    cs_same (u := .int .i64 r.bad) (by rw [cs_other (by omega), cs_other (by omega)]; exact z4)
  refine ⟨?_, fun e => (by cases e), fun j s hs => ⟨rfl, ?_⟩⟩
  · have := h.lt
    simpa [World.setCell] using this
  · by_cases hj : j = i
    · subst hj
      rw [List.getElem?_set_self hi] at hs
      obtain rfl := Option.some.inj hs
      refine ⟨?_, ?_, q2, q3, q4⟩
      · rw [ho _ (by omega) (by omega) (by omega), z0, ha.1]
      · rw [ho _ (by omega) (by omega) (by omega), z1, ha.2]
    · rw [List.getElem?_set_ne (Ne.symm hj)] at hs
      obtain ⟨_, k0, k1, k2, k3, k4⟩ := h.row j s hs
      refine ⟨?_, ?_, ?_, ?_, ?_⟩
      · rw [ho _ (by omega) (by omega) (by omega)]; exact k0
      · rw [ho _ (by omega) (by omega) (by omega)]; exact k1
      · rw [ho _ (by omega) (by omega) (by omega)]; exact k2
      · rw [ho _ (by omega) (by omega) (by omega)]; exact k3
      · rw [ho _ (by omega) (by omega) (by omega)]; exact k4

set_option maxHeartbeats 4000000 in
set_option maxRecDepth 100000 in
theorem rHear_old (ad : Addr) (g cap i : Nat) (T : List Rec) (r : Rec) (now lost f a nw bad : Int) (w : World) (hS : SL w (some ad) g T) (hlen : T.length < 1000) (a0 : 0 ≤ a) (a1 : a < 4294967296) (hB : argB f a bad = true)
    (n0 : 0 ≤ now) (n1 : now ≤ nw) (n2 : nw ≤ 4611686018427387904) (hb1 : bad ≤ 9223372036854775807) (hi : atI f a T = some i) (hr : T[i]? = some r) (hra : r.face = f ∧ r.addr = a) (hw : r.Wf) :
    Calls Tryd.prog 34 #[RN (some ad) T.length cap now lost, .int .i64 f, .int .u32 a, .int .i64 nw, .int .i64 bad] w
      fun e w' => (∃ v, e = .returned (.tuple #[v, .int .i64 0]) ∧ RNew w w' v (T.set i ⟨f, a, nw, addC r.good 1, addC r.bad bad⟩) nw lost) ∧ Below w.heap.size w w' := by
  have K := Lib.hid (fun W => rKind_any a W a0 a1)
  have HX0 := Lib.hid (HBx.start w (.slice (some ad) T.length cap) (.int .i64 now) (.int .i64 lost))
  obtain ⟨g1, g2, g3, g4⟩ := argB_iff.1 hB
  have t1 : decide (f < 0) = false := by simp; omega
  have t2 : decide (15 < f) = false := by simp; omega
  have t3 : (kindI a != 6) = false := by simp [g3]
  have t4 : decide (bad < 0) = false := by simp; omega
  have h5 := timeB_of n0 n1 n2
  have t5 : decide (nw < now) = false := by simp; omega
  obtain ⟨i0, hii, hz0, hz1, hz2⟩ := info_parts info40
  have hN : atN f a T = i := by unfold atN; rw [hi]
  have HS := Lib.hid hS
  clear g1 g2 g3 hB hS hi
  go_enter Tryd.func34, Tryd.ntmps34
  go_upto_region 6 with (first
      | (go_at_call 44; refine (K.out _).mono ?_; rintro e w1 ⟨rfl, hb⟩; have hx := HX0.out.below hb; have d0 := hx.d0; have d1 := hx.d1; have d2 := hx.d2; have e0 := hx.e0; have e1 := hx.e1; have e2 := hx.e2; have f0 := hx.f0; have f1 := hx.f1; have HX := Lib.hid hx; clear hx hb)
      | (go_at_call 45; refine (Time_any _ _).mono ?_; rw [h5]; rintro e w2 ⟨rfl, rfl⟩)
      | fail)
  clear d0 d1 d2 e0 e1 e2 f0 f1
  have hx5 : HBx w (w1.setCell ⟨w.heap.size, 1, none⟩ (.int .i64 nw)) (.slice (some ad) T.length cap) (.int .i64 nw) (.int .i64 lost) := HX.out.set 1 (.int .i64 nw)
  generalize w1.setCell ⟨w.heap.size, 1, none⟩ (.int .i64 nw) = W5 at *
  clear HX
  have d0 := hx5.d0
  have y0 : w.heap.size < W5.heap.size := by have := hx5.sz; omega
  have hs5 : SL W5 (some ad) g T := HS.out.below hx5.bl
  have hrow0 : (W5.alloc (.cells #[] 40)).ownsRow W5.heap.size 40 5 (.slice (some ⟨W5.heap.size, 0, none⟩) 0 0) 0 [] := World.ownsRow_made W5 #[] 0 (Nat.le_refl _) (by unfold maxLen; omega) rfl
  have hnews := sl_news (hs5.below (below_k W5 (.cells #[] 40))) ad rfl
  have HX5 := Lib.hid hx5
  have HS5 := Lib.hid hs5
  clear hx5 hs5
  go_upto_region 7 with (at_builtin; refine wpList_append_own _ rfl _ _ 45 rfl W5.heap.size 40 i0 (.agg #[.int .i64 0, .int .u32 0, .int .i64 0, .int .i64 0, .int .i64 0]) 5 40 Tryd.underlying45 hii hz0 hz1 hz2 rfl (by decide) _ _ _ rfl hrow0 ad T.length cap (nCs T) rfl (nCs_len T) hnews (nCs_one T) (by unfold maxLen; omega) (by omega) (by simp) ?_; intro v' w3 hown' hgrow hnil)
  have hb53 : Below W5.heap.size W5 w3 := ((Below.refl _ W5).alloc (Nat.le_refl _) (.cells #[] 40)).grown hgrow (by simp) (fun k e => Nat.le_of_eq (Option.some.inj e))
  rw [Nat.zero_add, List.nil_append] at hown'
  have hi : i < T.length := (List.getElem?_eq_some_iff.1 hr).1
  obtain ⟨gl, cl, cur, rfl, hgl, hcur⟩ : ∃ (gl cl : Nat) (cur : Array Value), v' = .slice (some ⟨gl, 0, none⟩) T.length cl ∧ W5.heap.size ≤ gl ∧ w3.heap[gl]? = some (.cells cur 40 (0, 0)) := by
    rcases hown'.2 with ⟨_, h0⟩ | ⟨gl, cl, cur, h1, h2, h3, _⟩
    · omega
    · exact ⟨gl, cl, cur, h1, h2, h3⟩
  obtain ⟨b', g', c', he, hsl, _⟩ := sl_of_row hown' (by have := hb53.size; omega)
  obtain ⟨rfl, rfl⟩ : b' = some ⟨gl, 0, none⟩ ∧ c' = cl := by simpa using he.symm
  have hgg : g' = gl := by
    obtain ⟨e, _⟩ := hsl.row i r hr
    simpa using e.symm
  subst hgg
  have hx3 := HX5.out.below hb53
  have hx4 := hx3.below (below_k w3 (rnObj (some ad) T.length cap nw lost))
  have hs4 := hsl.below (below_k w3 (rnObj (some ad) T.length cap nw lost))
  have hcur4 := ((below_k w3 (rnObj (some ad) T.length cap nw lost)).block g' hsl.lt).trans hcur
  have hA := At_any (some ad) g cap T nw lost f a w3 (HS5.out.below hb53) (by omega)
  rw [hN] at hA
  have HA := Lib.hid hA
  have p0 := hx3.d0
  have p1 := hx3.d1
  have p2 := hx3.d2
  have HX4 := Lib.hid hx4
  have HS4 := Lib.hid hs4
  have HC4 := Lib.hid hcur4
  have HGL := Lib.hid hgl
  clear hA hx3 hx4 hs4 hcur4 hsl hcur hown' hgrow hnil he hnews hrow0 hb53 d0
  go_upto_region 9 with (go_at_call 19; refine HA.out.mono ?_; rintro e w4 ⟨rfl, rfl⟩)
  generalize w3.alloc (rnObj (some ad) T.length cap nw lost) = w4 at *
  obtain ⟨_, z0, z1, z2, z3, z4⟩ := HS4.out.row i r hr
  have fg : ∀ o, w4.frozen? ⟨g', o, none⟩ = false := fun o => by simp [World.frozen?, HC4.out]
  have e0 := HX4.out.e0
  have e1 := HX4.out.e1
  have e2 := HX4.out.e2
  have d0 := HX4.out.d0
  have d1 := HX4.out.d1
  have d2 := HX4.out.d2
  have f0 := HX4.out.f0
  have f1 := HX4.out.f1
  have hsz := HX5.out.sz
  have ne0 : g' ≠ w.heap.size := by have := HGL.out; omega
  have ne1 : g' ≠ w.heap.size + 1 := by have := HGL.out; omega
  have hx6 : HBx w (((w4.setCell ⟨g', i * 5 + 2, none⟩ (.int .i64 nw)).setCell ⟨g', i * 5 + 3, none⟩ (.int .i64 (addC r.good 1))).setCell ⟨g', i * 5 + 4, none⟩ (.int .i64 (addC r.bad bad))) (.slice (some ad) T.length cap) (.int .i64 nw) (.int .i64 lost) :=
    ⟨(Below.heap_setCell _ _ _ _ (Ne.symm ne0)).trans ((Below.heap_setCell _ _ _ _ (Ne.symm ne0)).trans ((Below.heap_setCell _ _ _ _ (Ne.symm ne0)).trans HX4.out.b0)), (Below.heap_setCell _ _ _ _ (Ne.symm ne1)).trans ((Below.heap_setCell _ _ _ _ (Ne.symm ne1)).trans ((Below.heap_setCell _ _ _ _ (Ne.symm ne1)).trans HX4.out.b1)),
      ((HX4.out.bl.setCell (p := ⟨g', i * 5 + 2, none⟩) (by have := HGL.out; simp; omega) _).setCell (p := ⟨g', i * 5 + 3, none⟩) (by have := HGL.out; simp; omega) _).setCell (p := ⟨g', i * 5 + 4, none⟩) (by have := HGL.out; simp; omega) _⟩
  have hs6 := sl_set (x := nw) (y := addC r.good 1) (z := addC r.bad bad) HS4.out hr hra
  have HX6 := Lib.hid hx6
  have HS6 := Lib.hid hs6
  have i1 : (0 : Int) ≤ (i : Int) := by omega
  have i2 : (i : Int) < (T.length : Int) := by omega
  clear hx6 hs6 p0 p1 p2 hr hra
  go_upto_region 12 with (first
    | (go_at_call 46; with_reducible refine (sum_any r.good 1 _ hw.good.1 hw.good.2 (by omega) (by omega)).mono ?_; rintro e w' ⟨rfl, rfl⟩)
    | (go_at_call 46; with_reducible refine (sum_any r.bad bad _ hw.bad.1 hw.bad.2 g4 hb1).mono ?_; rintro e w' ⟨rfl, rfl⟩)
    | fail)
  generalize (((w4.setCell ⟨g', i * 5 + 2, none⟩ (.int .i64 nw)).setCell ⟨g', i * 5 + 3, none⟩ (.int .i64 (addC r.good 1))).setCell ⟨g', i * 5 + 4, none⟩ (.int .i64 (addC r.bad bad))) = w6 at *
  clear d0 d1 d2 e0 e1 e2 f0 f1 z0 z1 z2 z3 z4 fg
  have d0 := HX6.out.d0
  have d1 := HX6.out.d1
  have d2 := HX6.out.d2
  have e0 := HX6.out.e0
  have e1 := HX6.out.e1
  have e2 := HX6.out.e2
  have f0 := HX6.out.f0
  have f1 := HX6.out.f1
  go_wp2_with fail
  have hx7 : HBx w (w6.setCell ⟨w.heap.size, 0, none⟩ (.slice (some ⟨g', 0, none⟩) T.length c')) (.slice (some ⟨g', 0, none⟩) T.length c') (.int .i64 nw) (.int .i64 lost) := HX6.out.set 0 _
  have hs7 := HS6.out.of_block (Below.heap_setCell w6 ⟨w.heap.size, 0, none⟩ (.slice (some ⟨g', 0, none⟩) T.length c') g' ne0)
  generalize w6.setCell ⟨w.heap.size, 0, none⟩ (.slice (some ⟨g', 0, none⟩) T.length c') = w7 at *
  obtain ⟨c0, c1, c2⟩ := cells3_of (hx7.out (.slice (some ⟨g', 0, none⟩) T.length c') (.int .i64 nw) (.int .i64 lost))
  have hl : (T.set i ⟨f, a, nw, addC r.good 1, addC r.bad bad⟩).length = T.length := List.length_set
  exact bodyPost_ret (v := .tuple #[RN (some ⟨g', 0, none⟩) T.length c' nw lost, .int .i64 0]) (by simp [results, Tryd.results34, go_sem, c0, c1, c2]) rfl ⟨⟨_, rfl, some ⟨g', 0, none⟩, g', c', by rw [hl], hs7.of_block (hx7.outO _ _ _ ne1)⟩, hx7.outB _ _ _⟩
end Go.Proofs.YtahkhecfnimdbaaDoor
