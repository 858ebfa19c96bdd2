/- Copy: maps.Clone off the shelf. -/
import Derived.Test.YtahkhecfnimdbaaDoorV3
import Derived.Shelf.SlMaps.Clone
import Derived.Ground.SlmcProg
namespace Go.Proofs.YtahkhecfnimdbaaDoor
open Go.RowKit Go.Maps Go.Shelf

theorem Clone_any (m n : Nat) (D : DataW Unit) (w : World) (hown : w.ownsMap Tryd.prog 66 recR m n D) :
    Calls Tryd.prog 39 #[.map (some m)] w fun e w' => e = .returned (.map (some w.heap.size)) ∧ w'.ownsMap Tryd.prog 66 recR w.heap.size n D ∧ w'.ownsMap Tryd.prog 66 recR m n D ∧ Below w.heap.size w w' :=
  AnyW.maps_Clone_owns Tryd.cloneM 66 recR m n D w hown

set_option maxHeartbeats 4000000 in
set_option maxRecDepth 100000 in
theorem Copy_any (p m : Nat) (s : St) (w : World) (h : NW w p m s) :
    Calls Tryd.prog 23 #[.pointer (some ⟨p, 0, none⟩)] w fun e w' => (∃ p' m', e = .returned (.pointer (some ⟨p', 0, none⟩)) ∧ NW w' p' m' s ∧ w.heap.size ≤ p' ∧ w.heap.size ≤ m') ∧ Below w.heap.size w w' := by
  have c0 := h.ns.c0
  have c1 := h.ns.c1
  have c2 := h.ns.c2
  have H := Lib.hid h
  have hpl := h.ns.plt
  obtain ⟨D, ho, ht⟩ := h.ns.map
  obtain ⟨es, clock, hb, F, hs, hD⟩ := ho
  have hc := AnyW.maps_Clone Tryd.cloneM m es clock w.drew hb
  have e1 : (w.alloc (.map es clock)).drew.cell? ⟨p, 0, none⟩ = some (.map (some m)) := cell_below (((Below.refl _ w).alloc (Nat.le_refl _) _).drew) c0
  have e2 : (w.alloc (.map es clock)).drew.cell? ⟨p, 1, none⟩ = some (.int .i64 s.now) := cell_below (((Below.refl _ w).alloc (Nat.le_refl _) _).drew) c1
  have e3 : (w.alloc (.map es clock)).drew.cell? ⟨p, 2, none⟩ = some (.int .i64 s.lost) := cell_below (((Below.refl _ w).alloc (Nat.le_refl _) _).drew) c2
  have d1 : ((w.alloc (.map es clock)).alloc (.cells #[.map (some w.heap.size), .int .i64 s.now, .int .i64 s.lost] 64)).drew.cell? ⟨p, 0, none⟩ = some (.map (some m)) := cell_below ((((Below.refl _ w).alloc (Nat.le_refl _) _).alloc (by simp) _).drew) c0
  have d2 : ((w.alloc (.map es clock)).alloc (.cells #[.map (some w.heap.size), .int .i64 s.now, .int .i64 s.lost] 64)).drew.cell? ⟨p, 1, none⟩ = some (.int .i64 s.now) := cell_below ((((Below.refl _ w).alloc (Nat.le_refl _) _).alloc (by simp) _).drew) c1
  have d3 : ((w.alloc (.map es clock)).alloc (.cells #[.map (some w.heap.size), .int .i64 s.now, .int .i64 s.lost] 64)).drew.cell? ⟨p, 2, none⟩ = some (.int .i64 s.lost) := cell_below ((((Below.refl _ w).alloc (Nat.le_refl _) _).alloc (by simp) _).drew) c2
  have BF : Below w.heap.size w ((w.alloc (.map es clock)).alloc (.cells #[.map (some w.heap.size), .int .i64 s.now, .int .i64 s.lost] 64)).drew := (((Below.refl _ w).alloc (Nat.le_refl _) _).alloc (by simp) _).drew
  have hN : NS ((w.alloc (.map es clock)).alloc (.cells #[.map (some w.heap.size), .int .i64 s.now, .int .i64 s.lost] 64)).drew (w.heap.size + 1) w.heap.size s.T s.now s.lost := by
    refine NS.of (n := s.T.length) (D := D) ?_ ?_ ht h.ns.wf
    · have := World.alloc_heap_new (w.alloc (.map es clock)) (.cells #[.map (some w.heap.size), .int .i64 s.now, .int .i64 s.lost] 64)
      rw [World.size_alloc] at this
      exact this
    · exact ⟨es, clock, (Below.heap_alloc (w.alloc (.map es clock)) _ w.heap.size (by simp)).trans (MapKept.heap_alloc w _).1, F, hs, hD⟩
  have HN := Lib.hid hN
  have HBF := Lib.hid BF
  have HFB := Lib.hid (h.fb.below BF)
  clear h hb F hs hD ht hN BF
  go_enter Tryd.func23, Tryd.ntmps23
  go_wp2_with (go_at_call 26; refine (none_t _ _ _ _ _ _ H.out.ns).mono ?_; rintro e w' ⟨rfl, rfl⟩)
  go_region_held3 (fun w' => w'.cell? ⟨p, 0, none⟩ = some (.map (some m)) ∧ w'.cell? ⟨p, 1, none⟩ = some (.int .i64 s.now) ∧ w'.cell? ⟨p, 2, none⟩ = some (.int .i64 s.lost))
    (go_keep)
    ((refine hc.mono ?_; rintro e w' ⟨rfl, rfl⟩))
  go_wp2_with fail
  go_ret
  exact ⟨⟨w.heap.size + 1, w.heap.size, rfl, ⟨HN.out, HFB.out, H.out.len, H.out.n0, H.out.n1, H.out.l0, H.out.l1⟩, by omega, Nat.le_refl _⟩, HBF.out⟩
end Go.Proofs.YtahkhecfnimdbaaDoor
