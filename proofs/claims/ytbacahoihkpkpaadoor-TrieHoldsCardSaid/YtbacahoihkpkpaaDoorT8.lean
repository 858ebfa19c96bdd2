/- Contract: trie.Put (the walk). -/
import Derived.Test.YtbacahoihkpkpaaDoorT7
namespace Go.Proofs.YtbacahoihkpkpaaDoor
open Go.RowKit Go.Shelf

theorem TrS.cellT {w : World} {q : Nat} {t : TT} (h : TrS w q t) (p : Key) : TAt w (t.place p ⟨q, 0, none⟩) (t.spot p) := h.at.spot p
theorem TrS.placeLt {w : World} {q : Nat} {t : TT} (h : TrS w q t) (p : Key) : (t.place p ⟨q, 0, none⟩).block < w.heap.size := by
  rcases TT.place_block (t := t) (p := p) (a := ⟨q, 0, none⟩) with e | e
  · rw [e]; exact h.lt
  · exact h.here.lt e
theorem TrS.placeF {w : World} {q : Nat} {t : TT} (h : TrS w q t) (p : Key) : w.frozen? (t.place p ⟨q, 0, none⟩) = false := by
  have hin := h.here
  have hind : ∀ (s : TT) (a : Addr), s.In w → w.frozen? a = false → w.frozen? (s.place p a) = false := by
    intro s
    induction s with
    | nil => exact fun _ _ h => h
    | node b k o l r il ir =>
      intro a hs ha
      simp only [TT.place]
      repeat' split
      · exact ha
      · exact ir _ hs.2.2 (hs.f 5)
      · exact il _ hs.2.1 (hs.f 4)
      · exact ha
  exact hind t _ h.here (h.f 0)
theorem TrS.keysLen {w : World} {q : Nat} {t : TT} (h : TrS w q t) : ∀ x ∈ t.keys, x.length ≤ 32 := fun _ hx => h.wf.len hx

set_option maxHeartbeats 400000 in
theorem Put_arg (q : Nat) (t : TT) (pa pn v : Int) (w : World) (h : TrS w q t) (hr : rightB pa pn = false) :
    Calls Tryd.prog 14 #[.pointer (some ⟨q, 0, none⟩), .agg #[.int .u32 pa, .int .i64 pn], .int .i64 v] w fun e w' => e = .returned (.tuple #[.int .i64 0, .bool false, .int .i64 2]) ∧ Below w.heap.size w w' := by
  have b0 : Below w.heap.size w (w.alloc (.cells #[.int .u32 pa, .int .i64 pn] 26)) := (Below.refl _ w).alloc (Nat.le_refl _) _
  have hN := Lib.hid (none_t q t _ (h.below b0))
  have hC := Lib.hid (Check_f pa pn (w.alloc (.cells #[.int .u32 pa, .int .i64 pn] 26)) hr)
  have HB0 := Lib.hid b0
  clear h hr b0
  go_enter Tryd.func14, Tryd.ntmps14
  go_wp2_with fail
  refine wp_scope_fwd 0 rfl ?_
  go_wp2_with (first
    | (go_at_call 34; with_reducible refine hN.out.mono ?_; rintro e w' ⟨rfl, rfl⟩)
    | (go_at_call 36; with_reducible refine hC.out.mono ?_; rintro e w1 ⟨rfl, hb⟩; have HB1 := Lib.hid hb; clear hb))
  go_step3
  refine ⟨rfl, ?_⟩
  go_wp2_with fail
  rw [Exit.noGoto_ret]
  go_ret3
  exact ⟨rfl, bthen HB0.out HB1.out⟩

set_option maxHeartbeats 400000 in
theorem Put_nil (pa pn v : Int) (w : World) :
    Calls Tryd.prog 14 #[.pointer none, .agg #[.int .u32 pa, .int .i64 pn], .int .i64 v] w fun e w' => e = .returned (.tuple #[.int .i64 0, .bool false, .int .i64 1]) ∧ Below w.heap.size w w' := by
  have b0 : Below w.heap.size w (w.alloc (.cells #[.int .u32 pa, .int .i64 pn] 26)) := (Below.refl _ w).alloc (Nat.le_refl _) _
  have HB0 := Lib.hid b0
  clear b0
  go_enter Tryd.func14, Tryd.ntmps14
  go_wp2_with fail
  refine wp_scope_fwd 0 rfl ?_
  go_wp2_with (go_at_call 34; with_reducible refine (none_n _).mono ?_; rintro e w' ⟨rfl, rfl⟩)
  go_step3
  refine ⟨rfl, ?_⟩
  go_wp2_with fail
  rw [Exit.noGoto_ret]
  go_ret3
  exact ⟨rfl, HB0.out⟩

theorem hangP_val {w : World} {ab ao b b1 b2 : Nat} {p : Key} {u v : Int} {l r : TT} (c0 : w.cell? ⟨ab, ao, none⟩ = some (.pointer (some ⟨b, 0, none⟩))) (hin : (TT.node b p (some u) l r).In w) (hnd : ab ∉ (TT.node b p (some u) l r).blocks) (hn2 : (TT.node b p (some u) l r).blocks.Nodup) :
    HangP w (w.setCell ⟨b, 2, none⟩ (.int .i64 v)) ⟨ab, ao, none⟩ (.node b p (some u) l r) (TT.hang b1 b2 p v (.node b p (some u) l r)) := by
  have hab := World.block_lt_of_cell? w _ c0
  simp only at hab
  obtain ⟨i1, i2, i3⟩ := hin
  simp only [TT.blocks, List.nodup_cons, List.mem_cons, List.mem_append, not_or] at hnd hn2
  obtain ⟨hn1, hn2', hn3⟩ := hnd
  obtain ⟨⟨hn4, hn5⟩, _⟩ := hn2
  have hoth : ∀ c, c ≠ b → (w.setCell ⟨b, 2, none⟩ (.int .i64 v)).heap[c]? = w.heap[c]? := fun c hc => heapS _ _ _ _ c hc
  simp only [TT.hang, if_true]
  refine ⟨⟨rfl, rfl, rfl, by simp [sizeS], fun i hi hm => ?_⟩, ⟨heap_set _ i1, i2.of_blocks fun c hc => hoth c (fun e => hn4 (e ▸ hc)), i3.of_blocks fun c hc => hoth c (fun e => hn5 (e ▸ hc))⟩, ?_, fun cs tt fz h => ?_⟩
  · simp only [TT.blocks, List.mem_cons, not_or] at hm
    exact hoth i hm.2.1
  · rw [World.cell?_of_block (w := w) (a := ⟨ab, ao, none⟩) (hoth ab hn1)]
    exact c0
  · have hcs : cs[ao]? = some (.pointer (some ⟨b, 0, none⟩)) := by rw [← cell_heap h]; exact c0
    have e : cs.setIfInBounds ao (TT.node b p (some v) l r).ptr = cs := setIfInBounds_self hcs
    exact (hoth ab hn1).trans (by rw [e]; exact h)

set_option maxRecDepth 100000 in
set_option maxHeartbeats 2000000 in
theorem Put_old (q : Nat) (t : TT) (p : Key) (u v : Int) (w : World) (h : TrS w q t) (hR : RelsAt w) (hp : p.length ≤ 32) (hg : t.get p = some u) :
    Calls Tryd.prog 14 #[.pointer (some ⟨q, 0, none⟩), .agg #[.int .u32 (ka p), .int .i64 p.length], .int .i64 v] w fun e w' => e = .returned (.tuple #[.int .i64 u, .bool true, .int .i64 0]) ∧ ∃ t', Went w w' q t t' ∧ PutR t t' p v := by
  have b0 : Below w.heap.size w (w.alloc (.cells #[.int .u32 (ka p), .int .i64 p.length] 26)) := (Below.refl _ w).alloc (Nat.le_refl _) _
  have hN := Lib.hid (none_t q t _ (h.below b0))
  have hC := Lib.hid (Check_t (ka p) p.length (w.alloc (.cells #[.int .u32 (ka p), .int .i64 p.length] 26)) (ka_right hp))
  have hpb : PBox (w.alloc (.cells #[.int .u32 (ka p), .int .i64 p.length] 26)) w.heap.size (ka p) p.length := PBox.new w _ _
  have HPB := Lib.hid hpb
  have HB0 := Lib.hid b0
  have H := Lib.hid h
  have HR := Lib.hid hR
  clear h hR b0 hpb
  go_enter Tryd.func14, Tryd.ntmps14
  go_wp2_with fail
  go_step3
  go_wp2_with (first
    | (go_at_call 34; with_reducible refine hN.out.mono ?_; rintro e w' ⟨rfl, rfl⟩)
    | (go_at_call 36; with_reducible refine hC.out.mono ?_; rintro e w1 ⟨rfl, hb⟩; have HB1 := Lib.hid (bthen HB0.out hb); have hpb1 := HPB.out.below hb; have d0 := hpb1.c0; have d1 := hpb1.c1; have HPB1 := Lib.hid hpb1; clear hb hpb1)
    | fail)
  have hst1 := H.out.below HB1.out
  go_upto_region 7 with (go_at_call 38; refine (place_any q p t hp hst1.keysLen w1 hst1.at hst1.lt (HR.out.below HB1.out)).mono ?_; rintro e w3 ⟨rfl, hb3⟩; have HB3 := Lib.hid hb3; clear hb3)
  have hst := hst1.below HB3.out
  have hpb3 := HPB1.out.below HB3.out
  clear hst1 d0 d1
  have hsp : ∃ b l r, t.spot p = .node b p (some u) l r := by
    rw [TT.get_spot] at hg
    cases hs : t.spot p with
    | nil => rw [hs] at hg; cases hg
    | node b k o l r =>
      rw [hs] at hg
      simp only at hg
      split at hg
      · rename_i e; subst e; subst hg; exact ⟨b, l, r, rfl⟩
      · cases hg
  obtain ⟨b, l, r, hsp⟩ := hsp
  have hT := hst.cellT p
  have hni := TT.place_notin (t := t) (p := p) (a := ⟨q, 0, none⟩) hst.nodup
  have hnd := TT.spot_nodup (p := p) (List.nodup_cons.1 hst.nodup).2
  have hsn : (t.place p ⟨q, 0, none⟩).spot = none := TT.place_path rfl
  obtain ⟨⟨ab, ao, as1⟩, ha⟩ : ∃ a, t.place p ⟨q, 0, none⟩ = a := ⟨_, rfl⟩
  rw [ha] at hT hni hsn ⊢
  simp only at hsn
  subst hsn
  rw [hsp] at hT hni hnd
  have ca := hT.1
  have n0 := hT.2.c0
  have n1 := hT.2.c1
  have n2 := hT.2.c2
  have n3 := hT.2.c3
  have nf := hT.2.f 2
  have d0 := hpb3.c0
  have d1 := hpb3.c1
  simp only [TT.ptr, Option.isSome_some, Option.getD_some] at ca n2 n3
  have HT := Lib.hid hT
  have HNi := Lib.hid hni
  have HNd := Lib.hid hnd
  have HSt := Lib.hid hst
  have HA := Lib.hid ha
  have HSp := Lib.hid hsp
  have HG := Lib.hid hg
  clear hT hni hnd hst hpb3 ha hsp hg
  go_wp2_with fail
  go_quiet (fail)
  go_wp2_with fail
  rw [Exit.noGoto_ret]
  go_ret3
  refine ⟨rfl, ?_⟩
  have hst4 : TrS (w3.drewN nq) q t := HSt.out.below (below_drewN (Below.refl _ _) _)
  have hP : HangP (w3.drewN nq) ((w3.drewN nq).setCell ⟨b, 2, none⟩ (.int .i64 v)) (t.place p ⟨q, 0, none⟩) (t.spot p) (TT.hang (w3.drewN nq).heap.size ((w3.drewN nq).heap.size + 1) p v (t.spot p)) := by
    rw [HA.out, HSp.out]
    exact hangP_val (w := w3.drewN nq) HT.out.1 (hst4.cellT p |> fun h => by rw [HSp.out] at h; exact h.2) HNi.out HNd.out
  refine ⟨_, (went_old hst4 hp HG.out hP).after ?_, (TT.put_ok HSt.out.wf hp _ _).2.2⟩
  exact below_drewN (bthen HB1.out HB3.out) _
end Go.Proofs.YtbacahoihkpkpaaDoor
