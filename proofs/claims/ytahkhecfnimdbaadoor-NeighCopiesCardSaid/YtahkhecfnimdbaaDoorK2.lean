/- Neighbours in memory: lookups, stores; small contracts: none, New, added, Len, Now, Lost. -/
import Derived.Test.YtahkhecfnimdbaaDoorK1
namespace Go.Proofs.YtahkhecfnimdbaaDoor
open Go.RowKit

theorem heap_new (w : World) (o : Obj) : (w.alloc o).heap[w.heap.size]? = some o := (MapKept.heap_alloc w o).1

theorem tab_get {D : DataW Unit} {T : List Rec} (ht : Tab klR recD D T) (hw : ∀ r ∈ T, r.Wf) (f a : Int) (hk : KB f a) : D.atKey (kl f a) (recD zeroR) = recD (getR T f a) := by
  unfold getR
  cases hf : T.find? (atR f a) with
  | none =>
    rw [Option.getD_none]
    refine ht.at_not (fun r hr e => ?_) _
    exact List.find?_eq_none.1 hf r hr (atR_iff.2 (kl_inj (hw r hr).key hk e))
  | some r =>
    have hr := List.mem_of_find?_eq_some hf
    obtain ⟨h1, h2⟩ := atR_iff.1 (List.find?_some hf)
    rw [Option.getD_some]
    have := ht.at hr (recD zeroR)
    unfold klR at this
    rw [h1, h2] at this
    exact this

theorem others_up {T : List Rec} (hw : ∀ r ∈ T, r.Wf) (r : Rec) (hr : r.Wf) : others klR (klR r) T = T.filter fun s => !atR r.face r.addr s := by
  unfold others
  refine List.filter_congr fun s hs => ?_
  have := klR_same (hw s hs) hr.key
  unfold klR at this ⊢
  rw [this]

section
variable {W : World} {p m : Nat} {T : List Rec} {now lost : Int} (h : NS W p m T now lost)
include h
theorem NS.look1 (f a : Int) (hk : KB f a) : (Instr.lookup 62 (.map (some m)) (keyV f a) false).run Tryd.prog W = .ok (recV (getR T f a)) W := by
  obtain ⟨D, ho, ht⟩ := h.map
  obtain ⟨v, ps, hrun, hv⟩ := ho.lookup keyed66 Tryd.underlying62 (zero71 W) (recR_mk zeroR) (keyOf66 f a hk.f (wf_u32 hk.2.1 hk.2.2))
  rw [tab_get ht h.wf f a hk] at hv
  rw [recR_inv hv] at hrun
  exact hrun
theorem NS.len (ty : TypeId) : (Builtin.len_ #[62] ty #[.map (some m)]).run Tryd.prog W = .ok (.int .i64 T.length) W := by
  obtain ⟨D, ho, ht⟩ := h.map
  have := ho.len Tryd.underlying62 ty
  rw [ht.size] at this
  exact this
theorem NS.store (r : Rec) (hr : r.Wf) (hl : T.length < 1000000) : ∃ W', (Instr.mapUpdate 62 (.map (some m)) (keyV r.face r.addr) (recV r)).run Tryd.prog W = .ok () W' ∧ NS W' p m (upR T r) now lost ∧ W.grownBy W' (some m) := by
  obtain ⟨D, ho, ht⟩ := h.map
  obtain ⟨W', hrun, ho', hg⟩ := ho.update keyed66 Tryd.underlying62 (by unfold maxLen; omega) (keyOf66 r.face r.addr hr.key.f (wf_u32 hr.key.2.1 hr.key.2.2)) (recR_mk r)
  refine ⟨W', hrun, NS.of ((hg.block p h.plt (fun e => h.ne (Option.some.inj e))).trans h.box) ho' ?_ ?_, hg⟩
  · have := ht.put r (kl_key _ _)
    rw [others_up h.wf r hr] at this
    exact this
  · intro s hs
    rcases List.mem_cons.1 hs with rfl | hs
    · exact hr
    · exact h.wf s (List.mem_filter.1 hs).1
end

set_option maxHeartbeats 400000 in
theorem none_t (p m : Nat) (T : List Rec) (now lost : Int) (w : World) (h : NS w p m T now lost) :
    Calls Tryd.prog 26 #[.pointer (some ⟨p, 0, none⟩)] w fun e w' => e = .returned (.bool false) ∧ w = w' := by
  have c0 := h.c0
  clear h
  have hnn := fun (w : World) (r : Option Nat) => run_eql_map_nil (P := Tryd.prog) w 62 66 71 r Tryd.underlying62
  go_enter Tryd.func26, Tryd.ntmps26
  go_wp2
  go_ret
  exact ⟨rfl, rfl⟩
set_option maxHeartbeats 400000 in
theorem none_nil (w : World) :
    Calls Tryd.prog 26 #[.pointer none] w fun e w' => e = .returned (.bool true) ∧ w = w' := by
  go_enter Tryd.func26, Tryd.ntmps26
  go_wp2
  go_ret
  exact ⟨rfl, rfl⟩

set_option maxHeartbeats 400000 in
theorem New_any (w : World) :
    Calls Tryd.prog 9 #[] w fun e w' => (∃ p m, e = .returned (.pointer (some ⟨p, 0, none⟩)) ∧ NS w' p m [] 0 0 ∧ w.heap.size ≤ p ∧ w.heap.size ≤ m) ∧ Below w.heap.size w w' := by
  have hmm := @run_makeMap Tryd.prog
  go_enter Tryd.func9, Tryd.ntmps9
  go_wp2
  go_ret
  refine ⟨⟨w.heap.size + 1, w.heap.size, rfl, ?_, by omega, Nat.le_refl _⟩, ((Below.refl _ _).alloc (Nat.le_refl _) _).alloc (by simp) _⟩
  refine NS.of (n := 0) (D := .map []) ?_ ((World.ownsMap_made w Tryd.prog 66 recR).alloc _) tab_empty (fun r hr => by cases hr)
  have := heap_new (w.alloc (.map #[] 0)) (.cells #[.map (some w.heap.size), .int .i64 0, .int .i64 0] 64)
  simpa using this

/-- the sum of two counts -/
def addC (x y : Int) : Int := if 2147483647 - x ≤ y then 2147483647 else x + y
set_option maxHeartbeats 400000 in
theorem added2 (b : Nat) (x y : Int) (w : World) (x0 : 0 ≤ x) (x1 : x ≤ 2147483647) (y0 : 0 ≤ y) (y1 : y ≤ 9223372036854775807) (c0 : w.cell? ⟨b, 0, none⟩ = some (.int .i64 x)) (c1 : w.cell? ⟨b, 1, none⟩ = some (.int .i64 y)) :
    Calls Tryd.prog 28 #[.slice (some ⟨b, 0, none⟩) 2 2] w fun e w' => e = .returned (.int .i64 (addC x y)) ∧ w = w' := by
  by_cases hx : 2147483647 ≤ x
  · have t1 : decide (2147483647 ≤ x) = true := by simp [hx]
    have HF := Lib.hid (show addC x y = 2147483647 by unfold addC; rw [if_pos (by omega)])
    go_enter Tryd.func28, Tryd.ntmps28
    go_wp2
    refine wp_loop_rounds 3 ?_
    rw [rounds_succ]
    go_wp2
    go_ret
    exact ⟨ret_int HF.out.symm, rfl⟩
  · have t1 : decide (2147483647 ≤ x) = false := by simp; omega
    by_cases hy : 2147483647 - x ≤ y
    · have t2 : decide (2147483647 - x ≤ y) = true := by simp [hy]
      have HF := Lib.hid (show addC x y = 2147483647 by unfold addC; rw [if_pos hy])
      go_enter Tryd.func28, Tryd.ntmps28
      go_wp2
      refine wp_loop_rounds 3 ?_
      rw [rounds_succ]
      go_wp2
      rw [rounds_succ]
      go_wp2
      go_ret
      exact ⟨ret_int HF.out.symm, rfl⟩
    · have t2 : decide (2147483647 - x ≤ y) = false := by simp; omega
      have HF := Lib.hid (show addC x y = x + y by unfold addC; rw [if_neg hy])
      go_enter Tryd.func28, Tryd.ntmps28
      go_wp2
      refine wp_loop_rounds 3 ?_
      rw [rounds_succ]
      go_wp2
      rw [rounds_succ]
      go_wp2
      rw [rounds_succ]
      go_wp2
      go_ret
      exact ⟨ret_int HF.out.symm, rfl⟩

set_option maxHeartbeats 400000 in
theorem Len_any (p m : Nat) (T : List Rec) (now lost : Int) (w : World) (h : NS w p m T now lost) :
    Calls Tryd.prog 15 #[.pointer (some ⟨p, 0, none⟩)] w fun e w' => e = .returned (.int .i64 T.length) ∧ w = w' := by
  have c0 := h.c0
  have hlen := h.len
  have H := Lib.hid h
  clear h
  go_enter Tryd.func15, Tryd.ntmps15
  go_wp2_with (go_at_call 26; refine (none_t _ _ _ _ _ _ H.out).mono ?_; rintro e w' ⟨rfl, rfl⟩)
  go_ret
  exact ⟨rfl, rfl⟩
set_option maxHeartbeats 400000 in
theorem Now_any (p m : Nat) (T : List Rec) (now lost : Int) (w : World) (h : NS w p m T now lost) :
    Calls Tryd.prog 22 #[.pointer (some ⟨p, 0, none⟩)] w fun e w' => e = .returned (.int .i64 now) ∧ w = w' := by
  have c1 := h.c1
  have H := Lib.hid h
  clear h
  go_enter Tryd.func22, Tryd.ntmps22
  go_wp2_with (go_at_call 26; refine (none_t _ _ _ _ _ _ H.out).mono ?_; rintro e w' ⟨rfl, rfl⟩)
  go_ret
  exact ⟨rfl, rfl⟩
set_option maxHeartbeats 400000 in
theorem Lost_any (p m : Nat) (T : List Rec) (now lost : Int) (w : World) (h : NS w p m T now lost) :
    Calls Tryd.prog 21 #[.pointer (some ⟨p, 0, none⟩)] w fun e w' => e = .returned (.int .i64 lost) ∧ w = w' := by
  have c2 := h.c2
  have H := Lib.hid h
  clear h
  go_enter Tryd.func21, Tryd.ntmps21
  go_wp2_with (go_at_call 26; refine (none_t _ _ _ _ _ _ H.out).mono ?_; rintro e w' ⟨rfl, rfl⟩)
  go_ret
  exact ⟨rfl, rfl⟩
end Go.Proofs.YtahkhecfnimdbaaDoor
