/- Contract: trie.Take. Printed by gen_t16.py. -/
import Derived.Test.YtbacahoihkpkpaaDoorT15
import Derived.Test.YtbacahoihkpkpaaDoorT10
namespace Go.Proofs.YtbacahoihkpkpaaDoor
open Go.RowKit Go.Shelf

namespace TT
theorem clear_blocks (t : TT) (p : Key) : (t.clear p).blocks = t.blocks := by
  induction t with
  | nil => rfl
  | node b k o l r il ir =>
    simp only [clear]
    repeat' split
    · rfl
    · simp only [blocks, ir]
    · simp only [blocks, il]
    · rfl
theorem clear_keys (t : TT) (p : Key) : (t.clear p).keys = t.keys := by
  induction t with
  | nil => rfl
  | node b k o l r il ir =>
    simp only [clear]
    repeat' split
    · rfl
    · simp only [keys, ir]
    · simp only [keys, il]
    · rfl
theorem clear_dp (t : TT) (p : Key) : (t.clear p).dp = t.dp := by
  induction t with
  | nil => rfl
  | node b k o l r il ir =>
    simp only [clear]
    repeat' split
    · rfl
    · simp only [dp, ir]
    · simp only [dp, il]
    · rfl
theorem clear_rsub {t : TT} {p : Key} {b : Nat} {k : Key} {o : Option Int} {l r : TT} (h : t.spot p = .node b k o l r) (hk : k = p) : t.clear p = t.rsub p (.node b k none l r) := by
  induction t with
  | nil => simp [spot] at h
  | node b' k' o' l' r' il ir =>
    simp only [spot] at h
    simp only [clear, rsub]
    split
    · rename_i h1
      rw [if_pos h1] at h
      split
      · rename_i h2
        rw [if_pos h2] at h
        cases h
        rfl
      · rename_i h2
        rw [if_neg h2] at h
        split
        · rename_i h3
          rw [if_pos h3] at h
          rw [ir h]
        · rename_i h3
          rw [if_neg h3] at h
          rw [il h]
    · rename_i h1
      rw [if_neg h1] at h
      cases h
      exact absurd (by rw [hk]; exact List.prefix_refl _) h1
theorem kept_sub (t : TT) : (kept t).blocks.Sublist t.blocks := by
  cases t with
  | nil => exact List.Sublist.refl _
  | node b k o l r =>
    cases o with
    | some v => exact List.Sublist.refl _
    | none =>
      simp only [kept]
      split
      · exact (List.sublist_append_right l.blocks r.blocks).cons _
      · split
        · exact (List.sublist_append_left l.blocks r.blocks).cons _
        · exact List.Sublist.refl _
theorem tidyN_sub (t : TT) (p : Key) (d : Nat) : (t.tidyN p d).blocks.Sublist t.blocks := by
  induction t generalizing d with
  | nil => exact List.Sublist.refl _
  | node b k o l r il ir =>
    have hr : ∀ d, (TT.node b k o l (r.tidyN p d)).blocks.Sublist (TT.node b k o l r).blocks := fun d => ((List.Sublist.refl l.blocks).append (ir d)).cons_cons b
    have hl : ∀ d, (TT.node b k o (l.tidyN p d) r).blocks.Sublist (TT.node b k o l r).blocks := fun d => ((il d).append (List.Sublist.refl r.blocks)).cons_cons b
    simp only [tidyN]
    repeat' split
    · exact kept_sub _
    · exact List.Sublist.refl _
    · exact (kept_sub _).trans (hr _)
    · exact hr _
    · exact (kept_sub _).trans (hl _)
    · exact hl _
    · exact List.Sublist.refl _
end TT
theorem take_len {t : TT} (h : t.WF) {p : Key} {u : Int} (hg : t.get p = some u) : (t.take p).rows.length + 1 = t.rows.length := by
  obtain ⟨i, hi⟩ := List.getElem?_of_mem ((TT.get_iff h p u).1 hg)
  obtain ⟨h1, _, h3⟩ := TT.take_ok h p
  obtain ⟨i1, i2⟩ := delR_ok h.rows hi
  have e := ordR_ext h1.rows i1 (fun x => (h3 x.1 x.2).trans (i2 x.1 x.2).symm)
  rw [e]
  unfold delR
  have := (List.getElem?_eq_some_iff.1 hi).1
  simp only [List.length_append, List.length_take, List.length_drop]
  omega
theorem TT.In.block {W : World} {t : TT} (h : t.In W) {b : Nat} (hb : b ∈ t.blocks) : ∃ k o l r, W.heap[b]? = some (nodeO k o l r) := by
  induction t with
  | nil => simp [TT.blocks] at hb
  | node c k o l r il ir =>
    simp only [TT.blocks, List.mem_cons, List.mem_append] at hb
    rcases hb with rfl | hb | hb
    · exact ⟨k, o, l, r, h.1⟩
    · exact il h.2.1 hb
    · exact ir h.2.2 hb
/-- the table of the relations is no block of a trie -/
theorem TrS.zero {w : World} {q : Nat} {t : TT} (h : TrS w q t) (hR : RelsAt w) : 0 ∉ q :: t.blocks := by
  intro hm
  have h0 := hR.c0
  rcases List.mem_cons.1 hm with e | hm
  · obtain rfl : q = 0 := e.symm
    rw [h.c0] at h0
    cases t <;> simp [TT.ptr] at h0
  · obtain ⟨k, o, l, r, hb⟩ := h.here.block hm
    rw [cell_heap hb] at h0
    simp at h0
theorem RelsAt.back {S : List Nat} {w w' : World} (h : RelsAt w') (hk : KB S w w') (hS : 0 ∉ S) (h0 : 0 < w.heap.size) : RelsAt w := h.kp (hk.block 0 h0 hS).symm
theorem RelsAt.kb {S : List Nat} {w w' : World} (h : RelsAt w) (hS : 0 ∉ S) (hk : KB S w w') : RelsAt w' := h.kp (hk.block 0 (World.block_lt_of_cell? w _ h.c0) hS)
/-- p is gone, all else is as it was -/
def TakeR (t t' : TT) (p : Key) : Prop := ∀ x u, (x, u) ∈ t'.rows ↔ x ≠ p ∧ (x, u) ∈ t.rows

/-- the value cleared in memory -/
theorem clear_in {w : World} {q ab ao b : Nat} {t : TT} {p : Key} {u : Int} {l r : TT} (h : TrS w q t) (ha : t.place p ⟨q, 0, none⟩ = ⟨ab, ao, none⟩) (hs : t.spot p = .node b p (some u) l r) :
    TAt ((w.setCell ⟨b, 2, none⟩ (.int .i64 0)).setCell ⟨b, 3, none⟩ (.bool false)) ⟨q, 0, none⟩ (t.clear p) ∧ b ∈ t.blocks ∧ b ≠ q := by
  have hT := h.cellT p
  have hni := TT.place_notin (t := t) (p := p) (a := ⟨q, 0, none⟩) h.nodup
  have hnd := TT.spot_nodup (p := p) (List.nodup_cons.1 h.nodup).2
  have hbm : b ∈ t.blocks := TT.spot_blocks (p := p) (by rw [hs]; simp [TT.blocks])
  rw [ha, hs] at hT
  rw [ha, hs] at hni
  rw [hs] at hnd
  have hab := World.block_lt_of_cell? w _ hT.1
  simp only at hab
  obtain ⟨i1, i2, i3⟩ := hT.2
  simp only [TT.blocks, List.nodup_cons, List.mem_cons, List.mem_append, not_or] at hni hnd
  have hoth : ∀ c, c ≠ b → ((w.setCell ⟨b, 2, none⟩ (.int .i64 0)).setCell ⟨b, 3, none⟩ (.bool false)).heap[c]? = w.heap[c]? := fun c hc => (heapS _ _ _ _ c hc).trans (heapS _ _ _ _ c hc)
  refine ⟨?_, hbm, fun e => (List.nodup_cons.1 h.nodup).1 (by rw [← e]; exact hbm)⟩
  rw [TT.clear_rsub hs rfl]
  refine h.at.turn (p := p) h.nodup ⟨⟨heap_set _ (heap_set _ i1), i2.of_blocks fun c hc => hoth c (fun e => hnd.1.1 (e ▸ hc)), i3.of_blocks fun c hc => hoth c (fun e => hnd.1.2 (e ▸ hc))⟩, ?_, fun c _ h1 h2 => ?_, fun cs tt fz hcs => ?_⟩ rfl
  · rw [ha]
    exact (World.cell?_of_block (w := w) (a := ⟨ab, ao, none⟩) (hoth ab hni.1)).trans hT.1
  · rw [hs] at h1
    exact hoth c (fun e => h1 (by rw [e]; simp [TT.blocks]))
  · rw [ha] at hcs ⊢
    have hcs2 : cs[ao]? = some (.pointer (some ⟨b, 0, none⟩)) := by rw [← cell_heap hcs]; exact hT.1
    have e : cs.setIfInBounds ao (TT.node b p none l r).ptr = cs := setIfInBounds_self hcs2
    exact (hoth ab hni.1).trans (by rw [e]; exact hcs)

set_option maxHeartbeats 400000 in
theorem Take_arg (q : Nat) (t : TT) (pa pn : Int) (w : World) (h : TrS w q t) (hr : rightB pa pn = false) :
    Calls Tryd.prog 19 #[.pointer (some ⟨q, 0, none⟩), .agg #[.int .u32 pa, .int .i64 pn]] w fun e w' => e = .returned (.tuple #[.int .i64 0, .bool false, .int .i64 2]) ∧ Below w.heap.size w w' := by
  have b0 : Below w.heap.size w (w.alloc (.cells #[.int .u32 pa, .int .i64 pn] 26)) := (Below.refl _ w).alloc (Nat.le_refl _) _
  have hN := Lib.hid (none_t q t _ (h.below b0))
  have hC := Lib.hid (Check_f pa pn (w.alloc (.cells #[.int .u32 pa, .int .i64 pn] 26)) hr)
  have HB0 := Lib.hid b0
  clear h hr b0
  go_enter Tryd.func19, Tryd.ntmps19
  go_wp2_with fail
  refine wp_scope_fwd 0 rfl ?_
  go_wp2_with (first
    | (go_at_call 34; with_reducible refine hN.out.mono ?_; rintro e w' ⟨rfl, rfl⟩)
    | (go_at_call 36; with_reducible refine hC.out.mono ?_; rintro e w1 ⟨rfl, hb⟩; have HB1 := Lib.hid hb; clear hb))
  go_step3
  refine ⟨rfl, ?_⟩
  go_wp2_with fail
  rw [Exit.noGoto_ret]
  go_ret3
  exact ⟨rfl, bthen HB0.out HB1.out⟩

set_option maxHeartbeats 400000 in
theorem Take_nil (pa pn : Int) (w : World) :
    Calls Tryd.prog 19 #[.pointer none, .agg #[.int .u32 pa, .int .i64 pn]] w fun e w' => e = .returned (.tuple #[.int .i64 0, .bool false, .int .i64 1]) ∧ Below w.heap.size w w' := by
  have b0 : Below w.heap.size w (w.alloc (.cells #[.int .u32 pa, .int .i64 pn] 26)) := (Below.refl _ w).alloc (Nat.le_refl _) _
  have HB0 := Lib.hid b0
  clear b0
  go_enter Tryd.func19, Tryd.ntmps19
  go_wp2_with fail
  refine wp_scope_fwd 0 rfl ?_
  go_wp2_with (go_at_call 34; with_reducible refine (none_n _).mono ?_; rintro e w' ⟨rfl, rfl⟩)
  go_step3
  refine ⟨rfl, ?_⟩
  go_wp2_with fail
  rw [Exit.noGoto_ret]
  go_ret3
  exact ⟨rfl, HB0.out⟩


set_option maxRecDepth 100000 in
set_option maxHeartbeats 4000000 in
theorem Take_no (q : Nat) (t : TT) (p : Key) (w : World) (h : TrS w q t) (hR : RelsAt w) (hp : p.length ≤ 32) (hg : t.get p = none) :
    Calls Tryd.prog 19 #[.pointer (some ⟨q, 0, none⟩), .agg #[.int .u32 (ka p), .int .i64 p.length]] w fun e w' => e = .returned (.tuple #[.int .i64 0, .bool false, .int .i64 0]) ∧ Below w.heap.size w w' := by
  have b0 : Below w.heap.size w (w.alloc (.cells #[.int .u32 (ka p), .int .i64 p.length] 26)) := (Below.refl _ w).alloc (Nat.le_refl _) _
  have hN := Lib.hid (none_t q t _ (h.below b0))
  have hC := Lib.hid (Check_t (ka p) p.length (w.alloc (.cells #[.int .u32 (ka p), .int .i64 p.length] 26)) (ka_right hp))
  have hpb : PBox (w.alloc (.cells #[.int .u32 (ka p), .int .i64 p.length] 26)) w.heap.size (ka p) p.length := PBox.new w _ _
  have HPB := Lib.hid hpb
  have HB0 := Lib.hid b0
  have H := Lib.hid h
  have HR := Lib.hid hR
  clear h hR b0 hpb
  go_enter Tryd.func19, Tryd.ntmps19
  go_wp2_with fail
  go_step3
  go_wp2_with (first
    | (go_at_call 34; with_reducible refine hN.out.mono ?_; rintro e w' ⟨rfl, rfl⟩)
    | (go_at_call 36; with_reducible refine hC.out.mono ?_; rintro e w1 ⟨rfl, hb⟩; have HB1 := Lib.hid (bthen HB0.out hb); have hpb1 := HPB.out.below hb; have d0 := hpb1.c0; have d1 := hpb1.c1; have HPB1 := Lib.hid hpb1; have hst1 := H.out.below HB1.out; clear hb hpb1)
    | (go_at_call 38; refine (place_any q p t hp hst1.keysLen w1 hst1.at hst1.lt (HR.out.below HB1.out)).mono ?_; rintro e w3 ⟨rfl, hb3⟩; have HB3 := Lib.hid hb3; clear hb3
       have hst := hst1.below HB3.out
       have hpb3 := HPB1.out.below HB3.out
       clear hst1 d0 d1
       have hT := hst.cellT p
       have hsn : (t.place p ⟨q, 0, none⟩).spot = none := TT.place_path rfl
       have htop : ∀ b k o l r, t.spot p = TT.node b k o l r → (k = p ∨ ¬ k <+: p) ∧ k ∈ t.keys := fun b k o l r e => ⟨TT.spot_top e, TT.spot_keys e⟩
       have hg2 := TT.get_spot t p
       rw [hg] at hg2
       obtain ⟨⟨ab, ao, as1⟩, ha⟩ : ∃ a, t.place p ⟨q, 0, none⟩ = a := ⟨_, rfl⟩
       obtain ⟨X, hX⟩ : ∃ X, t.spot p = X := ⟨_, rfl⟩
       rw [ha] at hT hsn ⊢
       simp only at hsn
       subst hsn
       rw [hX] at hT htop hg2
       obtain ⟨P, hPp⟩ : ∃ P, X.ptr = P := ⟨_, rfl⟩
       have ca := hT.1
       rw [hPp] at ca
       have HPp := Lib.hid hPp
       clear hPp
       have d0 := hpb3.c0
       have d1 := hpb3.c1
       have HT := Lib.hid hT
       have HSt := Lib.hid hst
       have HTop := Lib.hid htop
       have HG := Lib.hid hg2
       have HG0 := Lib.hid hg
       have HA := Lib.hid ha
       have HX := Lib.hid hX
       clear hT hst hpb3 ha hX htop hg2 hg)
    | fail)
  cases X with
  | nil =>
    obtain rfl : P = .pointer none := HPp.out.symm
    go_quiet (fail)
    go_wp2_with fail
    go_ret3
    exact ⟨rfl, below_drewN (bthen HB1.out HB3.out) _⟩
  | node b k o l r =>
    have n0 := HT.out.2.c0
    have n1 := HT.out.2.c1
    have n3 := HT.out.2.c3
    obtain rfl : P = .pointer (some ⟨b, 0, none⟩) := HPp.out.symm
    obtain ⟨ht, hkm⟩ := HTop.out b k o l r rfl
    have hk32 := HSt.out.keysLen k hkm
    by_cases hkp : k = p
    · subst hkp
      clear ht
      have ho : o = none := by have := HG.out; simp at this; exact this.symm
      subst ho
      simp only [Option.isSome_none] at n3
      go_quiet (fail)
      go_wp2_with fail
      go_ret3
      exact ⟨rfl, below_drewN (bthen HB1.out HB3.out) _⟩
    · rcases neq_cases hk32 hkp with h1 | ⟨e1, h1, h2⟩
      · clear ht hkp
        go_quiet (fail)
        go_wp2_with fail
        go_ret3
        exact ⟨rfl, below_drewN (bthen HB1.out HB3.out) _⟩
      · clear ht hkp
        rw [e1] at n0
        go_quiet (fail)
        go_wp2_with fail
        go_ret3
        exact ⟨rfl, below_drewN (bthen HB1.out HB3.out) _⟩

set_option maxRecDepth 100000 in
set_option maxHeartbeats 4000000 in
theorem Take_yes (q : Nat) (t : TT) (p : Key) (u : Int) (w : World) (h : TrS w q t) (hR : RelsAt w) (hp : p.length ≤ 32) (hg : t.get p = some u) (hrows : (t.rows.length : Int) ≤ 1000000000) :
    Calls Tryd.prog 19 #[.pointer (some ⟨q, 0, none⟩), .agg #[.int .u32 (ka p), .int .i64 p.length]] w fun e w' => e = .returned (.tuple #[.int .i64 u, .bool true, .int .i64 0]) ∧ ∃ t', Went w w' q t t' ∧ TakeR t t' p := by
  have b0 : Below w.heap.size w (w.alloc (.cells #[.int .u32 (ka p), .int .i64 p.length] 26)) := (Below.refl _ w).alloc (Nat.le_refl _) _
  have hN := Lib.hid (none_t q t _ (h.below b0))
  have hC := Lib.hid (Check_t (ka p) p.length (w.alloc (.cells #[.int .u32 (ka p), .int .i64 p.length] 26)) (ka_right hp))
  have hpb : PBox (w.alloc (.cells #[.int .u32 (ka p), .int .i64 p.length] 26)) w.heap.size (ka p) p.length := PBox.new w _ _
  have HPB := Lib.hid hpb
  have HB0 := Lib.hid b0
  have H := Lib.hid h
  have HR := Lib.hid hR
  clear h hR b0 hpb
  go_enter Tryd.func19, Tryd.ntmps19
  go_wp2_with fail
  go_step3
  go_wp2_with (first
    | (go_at_call 34; with_reducible refine hN.out.mono ?_; rintro e w' ⟨rfl, rfl⟩)
    | (go_at_call 36; with_reducible refine hC.out.mono ?_; rintro e w1 ⟨rfl, hb⟩; have HB1 := Lib.hid (bthen HB0.out hb); have hpb1 := HPB.out.below hb; have d0 := hpb1.c0; have d1 := hpb1.c1; have HPB1 := Lib.hid hpb1; have hst1 := H.out.below HB1.out; clear hb hpb1)
    | (go_at_call 38; refine (place_any q p t hp hst1.keysLen w1 hst1.at hst1.lt (HR.out.below HB1.out)).mono ?_; rintro e w3 ⟨rfl, hb3⟩; have HB3 := Lib.hid hb3; clear hb3
       have hst := hst1.below HB3.out
       have hpb3 := HPB1.out.below HB3.out
       clear hst1 d0 d1
       have hT := hst.cellT p
       have hsn : (t.place p ⟨q, 0, none⟩).spot = none := TT.place_path rfl
       have htop : ∀ b k o l r, t.spot p = TT.node b k o l r → (k = p ∨ ¬ k <+: p) ∧ k ∈ t.keys := fun b k o l r e => ⟨TT.spot_top e, TT.spot_keys e⟩
       have hg2 := TT.get_spot t p
       rw [hg] at hg2
       obtain ⟨⟨ab, ao, as1⟩, ha⟩ : ∃ a, t.place p ⟨q, 0, none⟩ = a := ⟨_, rfl⟩
       obtain ⟨X, hX⟩ : ∃ X, t.spot p = X := ⟨_, rfl⟩
       rw [ha] at hT hsn ⊢
       simp only at hsn
       subst hsn
       rw [hX] at hT htop hg2
       obtain ⟨P, hPp⟩ : ∃ P, X.ptr = P := ⟨_, rfl⟩
       have ca := hT.1
       rw [hPp] at ca
       have HPp := Lib.hid hPp
       clear hPp
       have d0 := hpb3.c0
       have d1 := hpb3.c1
       have HT := Lib.hid hT
       have HSt := Lib.hid hst
       have HTop := Lib.hid htop
       have HG := Lib.hid hg2
       have HG0 := Lib.hid hg
       have HA := Lib.hid ha
       have HX := Lib.hid hX
       clear hT hst hpb3 ha hX htop hg2 hg)
    | fail)
  have hsp : ∃ b l r, X = .node b p (some u) l r := by
    have hg2 := HG.out
    cases X with
    | nil => cases hg2
    | node b k o l r =>
      simp only at hg2
      split at hg2
      · rename_i e; subst e; subst hg2; exact ⟨b, l, r, rfl⟩
      · cases hg2
  obtain ⟨b, l, r, rfl⟩ := hsp
  have n0 := HT.out.2.c0
  have n1 := HT.out.2.c1
  have n2 := HT.out.2.c2
  have n3 := HT.out.2.c3
  have f2 := HT.out.2.f 2
  have f3 := HT.out.2.f 3
  obtain rfl : P = .pointer (some ⟨b, 0, none⟩) := HPp.out.symm
  simp only [Option.isSome_some, Option.getD_some] at n2 n3
  go_quiet (fail)
  go_upto_region 9 with fail
  have hst4 : TrS (w3.drewN nq) q t := HSt.out.below (below_drewN (Below.refl _ _) _)
  have hB4 : Below w.heap.size w (w3.drewN nq) := below_drewN (bthen HB1.out HB3.out) _
  have hpb4 : (w3.drewN nq).cell? ⟨w.heap.size, 0, none⟩ = some (.int .u32 (ka p)) := d0
  have hpb5 : (w3.drewN nq).cell? ⟨w.heap.size, 1, none⟩ = some (.int .i64 p.length) := d1
  have hR4 : RelsAt (w3.drewN nq) := HR.out.below hB4
  generalize w3.drewN nq = w4 at *
  obtain ⟨hcl, hbm, hbq⟩ := clear_in hst4 HA.out HX.out
  obtain ⟨w5, hw5⟩ : ∃ w5, (w4.setCell ⟨b, 2, none⟩ (.int .i64 0)).setCell ⟨b, 3, none⟩ (.bool false) = w5 := ⟨_, rfl⟩
  rw [hw5] at hcl ⊢
  have hkb5 : KB (q :: t.blocks) w4 w5 := by rw [← hw5]; exact (KB.setCell _ _ _ _ _ (by simp [hbm])).trans (KB.setCell _ _ _ _ _ (by simp [hbm]))
  have hbox5 : w5.heap[q]? = some (.cells #[t.ptr, .int .i64 t.rows.length, .bool true] 84 (0, 0)) := by
    rw [← hw5]; exact (heapS _ _ _ _ q (fun e => hbq e.symm)).trans ((heapS _ _ _ _ q (fun e => hbq e.symm)).trans hst4.box)
  have hbl : b < w.heap.size := H.out.here.lt hbm
  have hq0 := H.out.lt
  have g0 : w5.cell? ⟨w.heap.size, 0, none⟩ = some (.int .u32 (ka p)) := by rw [← hw5]; exact (World.cell?_of_block (w := w4) (a := ⟨w.heap.size, 0, none⟩) ((heapS _ _ _ _ w.heap.size (by omega)).trans (heapS _ _ _ _ w.heap.size (by omega)))).trans hpb4
  have g1 : w5.cell? ⟨w.heap.size, 1, none⟩ = some (.int .i64 p.length) := by rw [← hw5]; exact (World.cell?_of_block (w := w4) (a := ⟨w.heap.size, 1, none⟩) ((heapS _ _ _ _ w.heap.size (by omega)).trans (heapS _ _ _ _ w.heap.size (by omega)))).trans hpb5
  have hrl : RelsAt w5 := hR4.kp (hkb5.block 0 (World.block_lt_of_cell? w4 _ hR4.c0) (hst4.zero hR4))
  clear hw5 hpb4 hpb5 ca d0 d1 n0 n1 n2 n3 f2 f3
  have m1 : w5.cell? ⟨q, 1, none⟩ = some (.int .i64 t.rows.length) := cell_heap hbox5
  have m2 : w5.frozen? ⟨q, 1, none⟩ = false := by simp [World.frozen?, hbox5]
  have hle := take_len hst4.wf HG0.out
  have hcs : ∀ v : Value, (w5.setCell ⟨q, 1, none⟩ v).heap[q]? = some (.cells #[t.ptr, v, .bool true] 84 (0, 0)) := fun v => heap_set (o := 1) v hbox5
  have hcn := List.nodup_cons.1 hst4.nodup
  have t1 : ((t.rows.length : Int) - 1) = (((t.take p).rows.length : Nat) : Int) := by omega
  have i0 : (1 : Int) ≤ (t.rows.length : Int) := by omega
  have i1 : (t.rows.length : Int) ≤ 1000000000 := hrows
  have Hz := Lib.hid (hst4.zero hR4)
  have HCs := Lib.hid hcs
  have HBx5 := Lib.hid hbox5
  have HCl := Lib.hid hcl
  have HSt4 := Lib.hid hst4
  have HKB := Lib.hid hkb5
  have HB4 := Lib.hid hB4
  have HRl := Lib.hid hrl
  have HT1 := Lib.hid t1
  have HCn := Lib.hid hcn
  have HBl := Lib.hid hbl
  clear hcs hcl hst4 hkb5 hB4 hrl hcn hR4 hbox5 t1
  go_upto_region 10 with fail
  obtain ⟨w6, hw6⟩ : ∃ w6, w5.setCell ⟨q, 1, none⟩ (.int .i64 ((t.rows.length : Int) - 1)) = w6 := ⟨_, rfl⟩
  rw [hw6]
  have hbox6 : w6.heap[q]? = some (.cells #[t.ptr, .int .i64 ((t.rows.length : Int) - 1), .bool true] 84 (0, 0)) := by rw [← hw6]; exact HCs.out _
  have hoth : ∀ c, c ≠ q → w6.heap[c]? = w5.heap[c]? := fun c hc => by rw [← hw6]; exact heapS _ _ _ _ c hc
  have hkb6 : KB (q :: t.blocks) w4 w6 := by rw [← hw6]; exact HKB.out.trans (KB.setCell _ _ _ _ _ (by simp))
  have hT6 : TAt w6 ⟨q, 0, none⟩ (t.clear p) := by
    refine ⟨?_, HCl.out.2.of_blocks fun c hc => hoth c (fun e => HCn.out.1 (by rw [← e, ← TT.clear_blocks t p]; exact hc))⟩
    have h1 := HCl.out.1
    rw [cell_heap hbox6]
    rw [cell_heap HBx5.out] at h1
    exact h1
  have hR6 : RelsAt w6 := HRl.out.kp (hoth 0 (fun e => Hz.out (by simp [e])))
  have k0 : w6.cell? ⟨w.heap.size, 0, none⟩ = some (.int .u32 (ka p)) := (World.cell?_of_block (w := w5) (a := ⟨w.heap.size, 0, none⟩) (hoth w.heap.size (by omega))).trans g0
  have k1 : w6.cell? ⟨w.heap.size, 1, none⟩ = some (.int .i64 p.length) := (World.cell?_of_block (w := w5) (a := ⟨w.heap.size, 1, none⟩) (hoth w.heap.size (by omega))).trans g1
  have hTd := Lib.hid (tidy_any q p (t.clear p) _ hp (fun x hx => HSt4.out.keysLen x (by rw [← TT.clear_keys t p]; exact hx)) (by rw [TT.clear_dp]; have := TT.dp_le HSt4.out.wf (q := []) (fun _ _ => List.nil_prefix) (by simp); simp at this; omega) w6 hT6 hbox6 (by rw [TT.clear_blocks]; exact HSt4.out.nodup) hR6)
  have HKB6 := Lib.hid hkb6
  clear hw6 hbox6 hoth hkb6 hT6 hR6 g0 g1 m1 m2
  go_wp2_with (go_at_call 42; with_reducible refine hTd.out.mono ?_; rintro e w7 ⟨⟨uu, rfl⟩, h1, h2, h3⟩; have H1 := Lib.hid h1; have H2 := Lib.hid h2; have H3 := Lib.hid h3; clear h1 h2 h3)
  rw [Exit.noGoto_ret]
  go_ret3
  refine ⟨rfl, t.take p, ⟨⟨?_, H1.out.2, ?_, (TT.take_ok HSt4.out.wf p).1⟩, ?_, fun c hc => .inl ?_⟩, (TT.take_ok HSt4.out.wf p).2.2⟩
  · have := H2.out
    rw [show ((t.take p).rows.length : Int) = (t.rows.length : Int) - 1 from HT1.out.symm]
    exact this
  · refine List.Nodup.sublist ((TT.tidyN_sub (t.clear p) p 0).cons_cons q) ?_
    rw [TT.clear_blocks]
    exact HSt4.out.nodup
  · have h3 := H3.out
    rw [TT.clear_blocks] at h3
    exact KB.thenB HB4.out (HKB6.out.trans h3)
  · have := TT.tidyN_blocks _ _ _ c hc
    rwa [TT.clear_blocks] at this
end Go.Proofs.YtbacahoihkpkpaaDoor
