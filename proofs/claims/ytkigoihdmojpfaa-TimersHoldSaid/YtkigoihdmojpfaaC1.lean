/- Queues: Copy, Same. -/
import Derived.Test.YtkigoihdmojpfaaR1
import Derived.Test.YtkigoihdmojpfaaG4
import Derived.Test.YtkigoihdmojpfaaL1
import Derived.Shelf.SlMaps.Clone
import Derived.Ground.SlmcProg
import Derived.Deep.RegionHeld3
namespace Go.Proofs.Ytkigoihdmojpfaa
open Go.RowKit Go.Shelf Go.Maps

theorem MClone_any (m n : Nat) (D : DataW Unit) (w : World) (hown : w.ownsMap Try.prog 29 (plainElem (H := Unit) Try.prog 3) m n D) :
    Calls Try.prog 45 #[.map (some m)] w fun e w' => e = .returned (.map (some w.heap.size)) ∧ w'.ownsMap Try.prog 29 (plainElem (H := Unit) Try.prog 3) w.heap.size n D ∧ w'.ownsMap Try.prog 29 (plainElem (H := Unit) Try.prog 3) m n D ∧ Below w.heap.size w w' :=
  AnyW.maps_Clone_owns Try.cloneM 29 (plainElem (H := Unit) Try.prog 3) m n D w hown
theorem ownsMap_below {W W' : World} {t : TypeId} {R : Value → Option (DataW Unit × List MemPlace)} {m n : Nat} {D : DataW Unit} (h : W.ownsMap Try.prog t R m n D) (hb : Below W.heap.size W W') : W'.ownsMap Try.prog t R m n D := by
  have hl := h.lt
  obtain ⟨es, clock, h1, h2⟩ := h
  exact ⟨es, clock, (hb.block m hl).trans h1, h2⟩
theorem own_below2 {W W' : World} {base n size : Nat} {e : TypeId} {v : Value} {xs : List Value} (h : W.ownsRow base e size v n xs) (hb : Below W.heap.size W W') : W'.ownsRow base e size v n xs :=
  h.kept (below_grownBy hb) (by cases v.ownBlock <;> simp)
theorem own_mono0 {W : World} {B e size n : Nat} {v : Value} {xs : List Value} (h : W.ownsRow B e size v n xs) : W.ownsRow 0 e size v n xs :=
  ⟨h.1, h.2.imp id (fun ⟨g, cap, cur, h1, _, h3⟩ => ⟨g, cap, cur, h1, Nat.zero_le _, h3⟩)⟩
/-- slices.Clone, nil or not -/
theorem SClone_v (v : Value) (b : Nat) (L : List TR) (w : World) (h0 : 0 < w.heap.size) (hr : w.ownsRow b 85 4 v L.length (tCs L)) (hl : L.length < 100000) :
    Calls Try.prog 44 #[v] w fun e w' => ∃ v', e = .returned v' ∧ w'.ownsRow w.heap.size 85 4 v' L.length (tCs L) ∧ Below w.heap.size w w' := by
  obtain ⟨base, g, cap, rfl, _, _, hS, hb, _, hN⟩ := SL.of_own h0 hr
  rcases hb with rfl | rfl
  · have e1 := hN rfl
    simp at e1
    obtain ⟨rfl, rfl⟩ := e1
    exact (SClone_nil 0 0 w).mono fun e w' ⟨he, hw⟩ => ⟨_, he, by subst hw; exact World.ownsRow_nil _ _ _ _, by subst hw; exact Below.refl _ _⟩
  · exact (SClone_any ⟨g, 0, none⟩ g cap L w hS hl).mono fun e w' ⟨g', cap', he, ho, hb⟩ => ⟨_, he, ho, hb⟩

set_option maxRecDepth 100000 in
set_option maxHeartbeats 8000000 in
theorem Copy_raw (q p m : Nat) (v : Value) (L : List TR) (w : World) (h : QS w q p m v L) (hl : L.length < 10000) :
    Calls Try.prog 24 #[.pointer (some ⟨q, 0, none⟩)] w fun e w' => ∃ q' p' m' v', e = .returned (.pointer (some ⟨q', 0, none⟩)) ∧ QS w' q' p' m' v' L ∧ (∀ c ∈ q' :: foot p' m' v', w.heap.size ≤ c) ∧ Below w.heap.size w w' := by
  have H := Lib.hid h
  have c0 := h.c
  have c1 := h.hs.c0
  have c2 := h.hs.c1
  have hql := h.qlt
  have hpl := h.hs.plt
  have HC := Lib.hid (fun W (hb : Below w.heap.size w W) => SClone_v v 0 L W (by have := hb.size; omega) (own_below2 h.hs.row hb) (by omega))
  obtain ⟨D, ho, ht⟩ := h.hs.map
  have HM := Lib.hid (fun W (hb : Below w.heap.size w W) => MClone_any m L.length D W (ownsMap_below ho hb))
  have HT := Lib.hid ht
  clear h ho ht
  go_enter Try.func24, Try.ntmps24
  go_upto_region 3 with (go_at_call 35; (with_reducible refine (none_t _ _ _ H.out.c).mono ?_); rintro e w' ⟨rfl, rfl⟩)
  have HB0 := Lib.hid ((Below.refl w.heap.size w).drew)
  go_region_held3 (fun w' => w'.cell? ⟨q, 0, none⟩ = some (.pointer (some ⟨p, 0, none⟩)) ∧ w'.cell? ⟨p, 0, none⟩ = some v ∧ w'.cell? ⟨p, 1, none⟩ = some (.map (some m)))
    (first | with_reducible exact ⟨x0, x1, x2⟩ | with_reducible exact ⟨y0, y1, y2⟩ | go_keep)
    (first
      | (go_at_call 44; (with_reducible refine (HC.out _ HB0.out).mono ?_); rintro e w1 ⟨v', rfl, hown, hb⟩; obtain ⟨b', g', cap', rfl, _, _, _, _, _, _⟩ := SL.of_own (by have := hb.size; have := HB0.out.size; omega) hown; have HO := Lib.hid hown; have hb1 := bthen HB0.out hb; have HB1 := Lib.hid hb1; have HBx := Lib.hid hb; have x0 := cellL hb1 c0; have x1 := cellL hb1 c1; have x2 := cellL hb1 c2; clear hown hb hb1)
      | (go_at_call 45; (with_reducible refine (HM.out _ HB1.out).mono ?_); rintro e w2 ⟨rfl, hm1, _, hb⟩; have HM1 := Lib.hid hm1; have hb2 := bthen HB1.out hb; have HB2 := Lib.hid hb2; have HBy := Lib.hid hb; have y0 := cellL hb2 c0; have y1 := cellL hb2 c1; have y2 := cellL hb2 c2; clear hm1 hb hb2))
  have hz1 := HBx.out.size
  have hz2 := HBy.out.size
  have hz0 : w.heap.size ≤ w1.heap.size := hz1
  have HA1 := Lib.hid (below1 w2 (.cells #[.slice b' L.length cap', .map (some w1.heap.size)] 74))
  have HA2 := Lib.hid (below1 (w2.alloc (.cells #[.slice b' L.length cap', .map (some w1.heap.size)] 74)) (.cells #[.pointer (some ⟨w2.heap.size, 0, none⟩)] 76))
  have n1 := heap_alloc_new w2 (.cells #[.slice b' L.length cap', .map (some w1.heap.size)] 74)
  have n2 := heap_alloc_new (w2.alloc (.cells #[.slice b' L.length cap', .map (some w1.heap.size)] 74)) (.cells #[.pointer (some ⟨w2.heap.size, 0, none⟩)] 76)
  rw [World.size_alloc] at n2
  have n3 := (HA2.out.block w2.heap.size (by simp)).trans n1
  have HN2 := Lib.hid n2
  have HN3 := Lib.hid n3
  have HAll := Lib.hid (bthen (bthen HB2.out HA1.out) HA2.out)
  have hrow := own_below2 (own_below2 (own_below2 HO.out HBy.out) HA1.out) HA2.out
  have hmap := ownsMap_below (ownsMap_below HM1.out HA1.out) HA2.out
  have HRow := Lib.hid hrow
  have HMap := Lib.hid hmap
  clear n1 n2 n3 hrow hmap
  go_wp2_with fail
  go_ret
  refine ⟨w2.heap.size + 1, w2.heap.size, w1.heap.size, .slice b' L.length cap', rfl, ⟨HN2.out, HS.of HN3.out (own_mono0 HRow.out) HMap.out HT.out H.out.hs.wf H.out.hs.ap, H.out.hp⟩, fun c hc => ?_, HAll.out⟩
  simp [foot] at hc
  rcases hc with rfl | rfl | rfl | hc
  · omega
  · omega
  · omega
  · exact (HRow.out.lt c hc).1
theorem Copy_q (q : Nat) (F : List Nat) (S : List TR) (w : World) (h : Qu w q F S) (hl : S.length < 10000) :
    Calls Try.prog 24 #[.pointer (some ⟨q, 0, none⟩)] w fun e w' => (∃ q' F', e = .returned (.pointer (some ⟨q', 0, none⟩)) ∧ Qu w' q' F' S ∧ (∀ c ∈ F', w.heap.size ≤ c)) ∧ Below w.heap.size w w' := by
  obtain ⟨p, m, v, L, h1, h2, h3, rfl⟩ := h
  exact (Copy_raw q p m v L w h1 (by rw [h2.length_eq]; exact hl)).mono fun e w' ⟨q', p', m', v', he, hq, hc, hb⟩ => ⟨⟨q', _, he, ⟨p', m', v', L, hq, h2, h3, rfl⟩, hc⟩, hb⟩
set_option maxRecDepth 100000 in
set_option maxHeartbeats 4000000 in
theorem Copy_nil (w : World) : Calls Try.prog 24 #[.pointer none] w fun e w' => e = .returned (.pointer none) ∧ w = w' := by
  go_enter Try.func24, Try.ntmps24
  go_wp2_with (go_at_call 35; (with_reducible refine (none_nil _).mono ?_); rintro e w' ⟨rfl, rfl⟩)
  go_ret
  exact ⟨rfl, rfl⟩

set_option maxRecDepth 100000 in
set_option maxHeartbeats 8000000 in
theorem Same_q (q1 q2 : Nat) (F1 F2 : List Nat) (S1 S2 : List TR) (w : World) (h1 : Qu w q1 F1 S1) (h2 : Qu w q2 F2 S2) (hl1 : S1.length < 10000) (hl2 : S2.length < 10000) :
    Calls Try.prog 20 #[.pointer (some ⟨q1, 0, none⟩), .pointer (some ⟨q2, 0, none⟩)] w fun e w' => e = .returned (.bool (decide (S1 = S2))) ∧ Below w.heap.size w w' := by
  obtain ⟨p1, e1⟩ := h1.c
  obtain ⟨p2, e2⟩ := h2.c
  have HN1 := Lib.hid (none_t q1 p1 w e1)
  have HN2 := Lib.hid (none_t q2 p2 w e2)
  have HR1 := Lib.hid (rows_any q1 F1 S1 w h1 (by omega))
  have HR2 := Lib.hid (fun W hb => rows_any q2 F2 S2 W (h2.below hb) (by omega))
  clear h1 h2 e1 e2
  go_enter Try.func20, Try.ntmps20
  go_wp2_with (first
    | (go_at_call 35; (with_reducible refine HN1.out.mono ?_); rintro e w' ⟨rfl, rfl⟩)
    | (go_at_call 35; (with_reducible refine HN2.out.mono ?_); rintro e w' ⟨rfl, rfl⟩)
    | (go_at_call 33; (with_reducible refine HR1.out.mono ?_); rintro e w1 ⟨v1, rfl, b1, g1, k1, rfl, hs, _, hb⟩; have HS1 := Lib.hid hs; have HB1 := Lib.hid hb; clear hs hb)
    | (go_at_call 33; (with_reducible refine (HR2.out _ HB1.out).mono ?_); rintro e w2 ⟨v2, rfl, b2, g2, k2, rfl, hs, _, hb⟩; have HEq := Lib.hid (Equal_any b1 b2 g1 0 k1 g2 0 k2 S1 S2 w2 (HS1.out.below hb) hs (by omega)); have HB2 := Lib.hid hb; clear hs hb)
    | (go_at_call 41; (with_reducible refine HEq.out.mono ?_); rintro e w3 ⟨rfl, hb⟩; have HB3 := Lib.hid hb; clear hb)
    | fail)
  go_ret
  exact ⟨rfl, bthen (bthen HB1.out HB2.out) HB3.out⟩
set_option maxRecDepth 100000 in
set_option maxHeartbeats 4000000 in
theorem Same_nil (w : World) : Calls Try.prog 20 #[.pointer none, .pointer none] w fun e w' => e = .returned (.bool true) ∧ w = w' := by
  go_enter Try.func20, Try.ntmps20
  go_wp2_with (go_at_call 35; (with_reducible refine (none_nil _).mono ?_); rintro e w' ⟨rfl, rfl⟩)
  go_ret
  exact ⟨rfl, rfl⟩
set_option maxRecDepth 100000 in
set_option maxHeartbeats 4000000 in
theorem Same_half (q : Nat) (F : List Nat) (S : List TR) (w : World) (h : Qu w q F S) : Calls Try.prog 20 #[.pointer (some ⟨q, 0, none⟩), .pointer none] w fun e w' => e = .returned (.bool false) ∧ w = w' := by
  obtain ⟨p1, e1⟩ := h.c
  have HN1 := Lib.hid (none_t q p1 w e1)
  clear h e1
  go_enter Try.func20, Try.ntmps20
  go_wp2_with (first
    | (go_at_call 35; (with_reducible refine HN1.out.mono ?_); rintro e w' ⟨rfl, rfl⟩)
    | (go_at_call 35; (with_reducible refine (none_nil _).mono ?_); rintro e w' ⟨rfl, rfl⟩))
  go_ret
  exact ⟨rfl, rfl⟩
end Go.Proofs.Ytkigoihdmojpfaa
