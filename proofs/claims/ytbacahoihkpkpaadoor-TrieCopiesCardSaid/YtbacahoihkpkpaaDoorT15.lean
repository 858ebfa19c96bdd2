/- Contract: trie.tidy. -/
import Derived.Test.YtbacahoihkpkpaaDoorT14
import Derived.Test.YtbacahoihkpkpaaDoorT13
namespace Go.Proofs.YtbacahoihkpkpaaDoor
open Go.RowKit Go.Shelf

attribute [local go_sem] Oper.semAt_some

theorem cells_atT {cur : Array Value} {k j : Nat} {xs : List Value} {v : Value} (h : cur.toList.take k = xs) (hx : xs[j]? = some v) : cur[j]? = some v := by
  subst h
  rw [List.getElem?_take] at hx
  split at hx
  · simpa using hx
  · cases hx
/-- the i-th place -/
def plQ (t : TT) (p : Key) (q : Nat) (i : Nat) : Addr := ((wayQ t p q)[i]?.map (·.1)).getD ⟨0, 0, none⟩
theorem wC_at (t : TT) (p : Key) (q : Nat) {i : Nat} (hi : i < (wayQ t p q).length) : (wC t p q (upF (wayQ t p q).length (wayQ t p q).length))[i]? = some (.pointer (some (plQ t p q i))) := by
  unfold wC upF
  rw [List.take_of_length_le (by simp), List.getElem?_map]
  have : (List.finRange (wayQ t p q).length)[i]? = some ⟨i, hi⟩ := by simp [hi]
  rw [this]
  simp [plQ, wayAt, List.getElem?_eq_getElem hi]
theorem rdV_of_row {W : World} {B : Nat} {t : TT} {p : Key} {q : Nat} {v : Value} (h : W.ownsRow B 77 1 v (wayQ t p q).length (wC t p q (upF (wayQ t p q).length (wayQ t p q).length))) :
    ∃ (base : Option Addr) (g cap : Nat), v = .slice base (wayQ t p q).length cap ∧ (base = none ∨ (B ≤ g ∧ g < W.heap.size)) ∧ ∀ i, i < (wayQ t p q).length → base = some ⟨g, 0, none⟩ ∧ W.cell? ⟨g, i, none⟩ = some (.pointer (some (plQ t p q i))) := by
  rcases h.2 with ⟨rfl, hl⟩ | ⟨g, cap, cur, rfl, hb, hc, h1, h2, h3, h4⟩
  · refine ⟨none, 0, 0, by rw [hl], .inl rfl, fun i hi => ?_⟩
    rw [hl] at hi
    exact absurd hi (by omega)
  · exact ⟨some ⟨g, 0, none⟩, g, cap, rfl, .inr ⟨hb, (Array.getElem?_eq_some_iff.1 hc).1⟩, fun i hi => ⟨rfl, by rw [cell_heap hc]; exact cells_atT h4 (wC_at t p q hi)⟩⟩
theorem way_frozen {W : World} {t : TT} {p : Key} {a : Addr} (h : t.In W) (ha : W.frozen? a = false) {y : Addr × TT} (hy : y ∈ t.way p a) : W.frozen? y.1 = false := by
  induction t generalizing a with
  | nil => simp [TT.way] at hy
  | node b k o l r il ir =>
    simp only [TT.way] at hy
    split at hy
    · rcases List.mem_cons.1 hy with rfl | hy
      · exact ha
      · split at hy
        · simp at hy
        · split at hy
          · exact ir h.2.2 (h.f 5) hy
          · exact il h.2.1 (h.f 4) hy
    · simp at hy

/-- between two rounds of tidy -/
structure TyI (t : TT) (p : Key) (q B Bv : Nat) (base : Option Addr) (g cap : Nat) (cs : Array Value) (w : World) (k : Nat) (W : World) : Prop where
  sz : B ≤ W.heap.size
  at_ : TAt W ⟨q, 0, none⟩ (t.tidyN p ((wayQ t p q).length - k))
  box : W.heap[q]? = some (.cells (cs.setIfInBounds 0 (t.tidyN p ((wayQ t p q).length - k)).ptr) 84 (0, 0))
  rd : RdV Bv base g (wayQ t p q).length cap (plQ t p q) W
  kb : KB (q :: t.blocks) w W
  fz : ∀ y ∈ wayQ t p q, W.frozen? y.1 = false

theorem TT.ptr_pointer (t : TT) : ∃ u, t.ptr = .pointer u := by cases t <;> exact ⟨_, rfl⟩
theorem set_set (cs : Array Value) (o : Nat) (u v : Value) : (cs.setIfInBounds o u).setIfInBounds o v = cs.setIfInBounds o v := by
  apply Array.ext_getElem?
  intro i
  simp only [Array.getElem?_setIfInBounds, Array.size_setIfInBounds]
  split <;> rfl
theorem tyI_own {t : TT} {p : Key} {q B Bv : Nat} {base : Option Addr} {g cap : Nat} {cs : Array Value} {w : World} {Z : Nat} (hZ : B ≤ Z) (hwB : w.heap.size ≤ B) (hBv : Bv < B) (hb : ∀ c ∈ q :: t.blocks, c < B) (hg : (wayQ t p q).length ≠ 0 → g < B) (hw : ∀ y ∈ wayQ t p q, y.1.block < B) :
    OwnFrom Z (fun k W => TyI t p q B Bv base g cap cs w k W) := by
  intro k X Y row h hgr hr
  have e : ∀ c, c < B → Y.heap[c]? = X.heap[c]? := fun c hc => hgr.block c (Nat.lt_of_lt_of_le hc h.sz) (fun e => by have := (hr c e.symm).1; omega)
  refine ⟨Nat.le_trans h.sz hgr.size, ⟨(World.cell?_of_block (w := X) (a := ⟨q, 0, none⟩) (e q (hb q (by simp)))).trans h.at_.1, h.at_.2.of_blocks fun c hc => e c (hb c (by simp [TT.tidyN_blocks _ _ _ c hc]))⟩, (e q (hb q (by simp))).trans h.box, ⟨(e Bv hBv).trans h.rd.1, fun i hi => ⟨(h.rd.2 i hi).1, (World.cell?_of_block (w := X) (a := ⟨g, i, none⟩) (e g (hg (by omega)))).trans (h.rd.2 i hi).2⟩⟩, ⟨hgr.os.trans h.kb.os, hgr.tape.trans h.kb.tape, hgr.output.trans h.kb.output, Nat.le_trans h.kb.size hgr.size, fun i hi hm => ?_⟩, fun y hy => ?_⟩
  · by_cases hib : i < B
    · exact (e i hib).trans (h.kb.block i hi hm)
    · omega
  · have := h.fz y hy
    obtain ⟨⟨yb, yo, ys⟩, s⟩ := y
    have hl : yb < B := hw _ hy
    unfold World.frozen? at this ⊢
    rw [show Y.heap[(⟨yb, yo, ys⟩ : Addr).block]? = X.heap[(⟨yb, yo, ys⟩ : Addr).block]? from e yb hl]
    exact this

set_option maxRecDepth 100000 in
set_option maxHeartbeats 4000000 in
theorem tidy_any (q : Nat) (p : Key) (t : TT) (cs : Array Value) (hp : p.length ≤ 32) (hlen : ∀ x ∈ t.keys, x.length ≤ 32) (hdp : t.dp ≤ 1000) (w : World) (hT : TAt w ⟨q, 0, none⟩ t) (hbox : w.heap[q]? = some (.cells cs 84 (0, 0))) (hn : (q :: t.blocks).Nodup) (hR : RelsAt w) :
    Calls Tryd.prog 42 #[.pointer (some ⟨q, 0, none⟩), .agg #[.int .u32 (ka p), .int .i64 p.length]] w fun e w' => (∃ u, e = .returned u) ∧
      TAt w' ⟨q, 0, none⟩ (t.tidyN p 0) ∧ w'.heap[q]? = some (.cells (cs.setIfInBounds 0 (t.tidyN p 0).ptr) 84 (0, 0)) ∧ KB (q :: t.blocks) w w' := by
  have hq : q < w.heap.size := (Array.getElem?_eq_some_iff.1 hbox).1
  have b3 : Below w.heap.size w (((w.alloc (.cells #[.int .u32 (ka p), .int .i64 p.length] 26)).alloc (.cells #[.pointer (some ⟨q, 0, none⟩)] 28)).alloc (.cells #[.int .u32 (ka p), .int .i64 p.length] 26)) := (((Below.refl _ w).alloc (Nat.le_refl _) _).alloc (by simp) _).alloc (by simp; omega) _
  have hC := Lib.hid (Collect_any (w.heap.size + 1) (w.heap.size + 1 + 1) q p t hp hlen hdp (((w.alloc (.cells #[.int .u32 (ka p), .int .i64 p.length] 26)).alloc (.cells #[.pointer (some ⟨q, 0, none⟩)] 28)).alloc (.cells #[.int .u32 (ka p), .int .i64 p.length] 26))
    (by simp only [heapA, World.size_alloc]; repeat (first | rw [if_pos trivial] | rw [if_neg (by omega)])) (by simp only [heapA, World.size_alloc]; repeat (first | rw [if_pos trivial] | rw [if_neg (by omega)])) (hT.below hq rfl b3) (by simp; omega) (hR.below b3))
  have HT := Lib.hid hT
  have HBx := Lib.hid hbox
  have HN := Lib.hid hn
  have HB3 := Lib.hid b3
  have hblt : ∀ c ∈ q :: t.blocks, c < w.heap.size := fun c hc => by
    rcases List.mem_cons.1 hc with rfl | hc
    · exact hq
    · exact hT.2.lt hc
  have HBlt := Lib.hid hblt
  clear hT hbox hn hR b3 hlen hblt
  refine (callsIn_wide (n := 3)).1 ?_
  refine callsIn_of_wp_marks Tryd.func42 rfl trivial ?_ rfl
  simp only [Tryd.ntmps42, List.size_toArray, List.length_cons, List.length_nil, Nat.reduceAdd, Nat.reduceSub, Array.replicate_succ, Array.replicate_zero, List.push_toArray, List.append_toArray, List.nil_append, List.cons_append]
  refine wpIn_wide.2 ?_
  go_wp2_with (first
    | (go_at_call 57; refine (down_any q p _).mono ?_; rintro e w2 ⟨rfl, rfl⟩)
    | (go_at_call 63; with_reducible refine hC.out.mono ?_; rintro e w4 ⟨v, rfl, hrow, hb4⟩; have HRow := Lib.hid hrow; have HB4 := Lib.hid hb4; clear hrow hb4)
    | fail)
  obtain ⟨base, g, cap, rfl, hg, hrd⟩ := rdV_of_row HRow.out
  refine (Backward_any _ base _ cap rfl w4).mono ?_
  rintro e w5 ⟨rfl, rfl⟩
  go_wp2_with fail
  refine (wpIn_wide (n := 3)).1 ?_
  have hB4 : Below w.heap.size w w4 := bthen HB3.out HB4.out
  have hB5 : Below w.heap.size w (w4.alloc (.cells #[.slice base (wayQ t p q).length cap] 111)) := hB4.alloc hB4.size _
  have hw4 := hB4.size
  have hrd5 : RdV w4.heap.size base g (wayQ t p q).length cap (plQ t p q) (w4.alloc (.cells #[.slice base (wayQ t p q).length cap] 111)) := ⟨World.alloc_heap_new w4 _, fun i hi => ⟨(hrd i hi).1, (((Below.refl _ w4).alloc (Nat.le_refl _) _).cell (p := ⟨g, i, none⟩) (World.block_lt_of_cell? w4 _ (hrd i hi).2)).trans (hrd i hi).2⟩⟩
  have hwg : w.heap.size ≤ g ∨ (wayQ t p q).length = 0 := by
    rcases hg with h | ⟨h1, h2⟩
    · by_cases h0 : (wayQ t p q).length = 0
      · exact .inr h0
      · have := (hrd 0 (by omega)).1
        rw [h] at this; cases this
    · left; simp at h1; omega
  have hgl : (wayQ t p q).length ≠ 0 → g < w4.heap.size := fun h => World.block_lt_of_cell? w4 _ (hrd 0 (by omega)).2
  have hN0 : (wayQ t p q).length ≤ 1000 := Nat.le_trans way_len hdp
  have hI0 : TyI t p q (w4.heap.size + 1) w4.heap.size base g cap cs w 0 (w4.alloc (.cells #[.slice base (wayQ t p q).length cap] 111)) := by
    have e : t.tidyN p ((wayQ t p q).length - 0) = t := TT.tidyN_all (a := ⟨q, 0, none⟩) (by simp)
    refine ⟨by simp, by rw [e]; exact HT.out.below hq rfl hB5, ?_, hrd5, KB.of_below hB5, fun y hy => ?_⟩
    · rw [e]
      have hcs : cs[0]? = some t.ptr := by rw [← cell_heap HBx.out]; exact HT.out.1
      rw [setIfInBounds_self hcs]
      exact (hB5.block q hq).trans HBx.out
    · have h1 := way_frozen (a := ⟨q, 0, none⟩) HT.out.2 (by simp [World.frozen?, HBx.out]) hy
      have h2 := way_at HT.out rfl hy
      obtain ⟨⟨yb, yo, ys⟩, s⟩ := y
      have : yb < w.heap.size := by rcases h2.2.2.1 with h | h; (rw [show yb = q from h]; exact hq); exact HBlt.out _ (by simp [show yb ∈ t.blocks from h])
      have h3 : ys = none := h2.2.1
      subst h3
      exact (hB5.frozen (p := ⟨yb, yo, none⟩) this).trans h1
  have HI0 := Lib.hid hI0
  have Hgl := Lib.hid hgl
  have Hwg := Lib.hid hwg
  have HB5 := Lib.hid hB5
  clear hI0 hgl hwg hB5 hB4 hrd5 hrd hg
  obtain ⟨N, hN⟩ : ∃ N, (wayQ t p q).length = N := ⟨_, rfl⟩
  rw [hN] at hN0 ⊢
  refine wpIn_range_count rfl (by omega) (gf := 81) (lb := #[.pointer (some ⟨w4.heap.size, 0, none⟩)]) rfl trivial (enters_of Tryd.func81 (by kernel_rfl) rfl)
    (Backward1_count (3 - 1) w4.heap.size base g N cap (plQ t p q) hN0 _) (fun _ => rfl)
    (fun k W => TyI t p q (w4.heap.size + 1) w4.heap.size base g cap cs w k W) (tyI_own (by simp) (by omega) (by omega) (fun c hc => by have := HBlt.out c hc; omega) (fun h => by have := Hgl.out h; omega) (fun y hy => ?fz)) (fun k W h => by have := h.rd; rwa [hN] at this) (by have h := HI0.out; rw [hN] at h; exact h)
    (fun k a' => a' = { tmps := #[.pointer (some ⟨q, 0, none⟩), .agg #[.int .u32 (ka p), .int .i64 p.length], undef, .pointer (some ⟨w.heap.size, 0, none⟩), .slice base N cap, undef, .pointer (some (plQ t p q (N - 1 - k))), .pointer (some ⟨q, 0, none⟩), .agg #[.int .u32 (ka p), .int .i64 p.length], .func (.func 75) #[] #[.pointer (some ⟨w.heap.size + 1, 0, none⟩), .pointer (some ⟨w.heap.size + 1 + 1, 0, none⟩)], .slice base N cap, .slice base N cap, .func (.func 81) #[] #[.pointer (some ⟨w4.heap.size, 0, none⟩)], .int .i64 ((N : Int) - 1 - k), .pointer (some (plQ t p q (N - 1 - k))), undef, undef, undef, undef, undef, undef], defers := [] })
    ?assign ?body ?done
  case fz =>
    have h2 := way_at HT.out rfl hy
    rcases h2.2.2.1 with h | h
    · rw [h]; show q < _; omega
    · have := HBlt.out _ (List.mem_cons_of_mem q h); omega
  case assign =>
    rintro l k W hk hI
    unfold encB
    gi_wp2_with fail
    exact ⟨trivial, trivial⟩
  case body =>
    rintro l k a' W hl ⟨r, hr⟩ hk hI rfl
    obtain ⟨y, hy⟩ : ∃ y, (wayQ t p q)[N - 1 - k]? = some y := ⟨_, List.getElem?_eq_getElem (by omega)⟩
    have hpl : plQ t p q (N - 1 - k) = y.1 := by simp [plQ, hy]
    rw [hpl]
    have hat := hI.at_
    rw [hN, show N - k = (N - 1 - k) + 1 by omega] at hat
    have hbx := hI.box
    rw [hN, show N - k = (N - 1 - k) + 1 by omega] at hbx
    obtain ⟨b, k2, o, l2, r2, h1, h2, h3, h4, h5, h6⟩ := tidy_step t p (N - 1 - k) ⟨q, 0, none⟩ W y hy hat HN.out rfl
    have f0 := hI.fz _ (List.mem_of_getElem? hy)
    have hyw := way_at HT.out rfl (List.mem_of_getElem? hy)
    obtain ⟨⟨yb, yo, ys⟩, s⟩ := y
    simp only at h1 h2 h3 h4 h5 h6 f0 hyw ⊢
    subst h3
    have ca := h1.1
    simp only [TT.ptr] at ca
    have hyS : yb ∈ q :: t.blocks := by rcases h4 with h | h; (rw [h]; simp); simp [h]
    have hyl : yb < w.heap.size := HBlt.out yb hyS
    have hK := Lib.hid (kept_any b k2 o l2 r2 W h1.2)
    obtain ⟨u, hu⟩ := TT.ptr_pointer (TT.kept (.node b k2 o l2 r2))
    rw [hu] at h2
    have Hu := Lib.hid hu
    have H1 := Lib.hid h1
    have H2 := Lib.hid h2
    have H5 := Lib.hid h5
    have H6 := Lib.hid h6
    have HI := Lib.hid hI
    have HBx2 := Lib.hid hbx
    have Hy := Lib.hid hy
    have HyS := Lib.hid hyS
    clear hu h1 h2 h4 h5 h6 hI hbx hat hpl hyw hy hyS hr
    gi_wp2_with fail
    refine ⟨trivial, (CallsIn.inRound l (callsIn_wide.2 hK.out)).mono ?_⟩
    rw [Hu.out]
    rintro e W2 ⟨rfl, rfl⟩
    gi_wp2_with fail
    have e1 : N - (k + 1) = N - 1 - k := by omega
    refine ⟨(KeepsOthers.setCell _ _ _).from _, ⟨by rw [sizeS]; exact HI.out.sz, by rw [hN, e1]; exact H2.out, ?_, ⟨(heapS _ _ _ _ _ (by omega)).trans HI.out.rd.1, fun i hi => ⟨(HI.out.rd.2 i hi).1, (World.cell?_of_block (w := W) (a := ⟨g, i, none⟩) (heapS _ _ _ _ g (by rcases Hwg.out with h | h; omega; omega))).trans (HI.out.rd.2 i hi).2⟩⟩, HI.out.kb.trans (KB.setCell _ _ _ _ _ HyS.out), fun y hy => by rw [World.frozen?_setCell]; exact HI.out.fz y hy⟩⟩
    rw [hN, e1]
    rcases Nat.eq_zero_or_pos (N - 1 - k) with hz | hz
    · have e := H5.out hz
      simp only [Addr.mk.injEq] at e
      obtain ⟨rfl, rfl, _⟩ := e
      have e2 := H2.out.1
      rw [World.cell?_setCell_same' _ _ _ (by rw [H1.out.1]; rfl)] at e2
      have := heap_set (o := 0) (.pointer u) HBx2.out
      refine this.trans ?_
      rw [set_set, Option.some.inj e2]
    · have hne : q ≠ yb := fun e => (List.nodup_cons.1 HN.out).1 (by rw [e]; exact H6.out hz)
      refine (heapS _ _ _ _ q hne).trans (HBx2.out.trans ?_)
      rw [TT.tidyN_ptr (d := N - 1 - k + 1) (e := N - 1 - k) (by omega) hz]
  case done =>
    rintro D W hD hI hK
    have h1 := hI.at_
    have h2 := hI.box
    rw [hN, Nat.sub_self] at h1 h2
    have hkb := hI.kb
    have hDl : w.heap.size < D := by have : (w4.alloc (.cells #[.slice base N cap] 111)).heap.size = w4.heap.size + 1 := by simp
                                     omega
    go_wp2_with fail
    refine ⟨by simp, .inl ⟨_, _, rfl, run_takeDeferred hK, ?_⟩⟩
    have ho : ∀ c, c < w.heap.size → (W.putObj D (.deferred none)).heap[c]? = W.heap[c]? := fun c hc => World.putObj_heap_other (by omega)
    refine ⟨_, results_none rfl _ _ _, ⟨_, rfl⟩, ⟨(World.cell?_of_block (w := W) (a := ⟨q, 0, none⟩) (ho q hq)).trans h1.1, h1.2.of_blocks fun c hc => ho c (HBlt.out c (by simp [TT.tidyN_blocks _ _ _ c hc]))⟩, (ho q hq).trans h2, ⟨hkb.os, hkb.tape, hkb.output, by have := hkb.size; simpa [World.putObj] using this, fun i hi hm => (ho i hi).trans (hkb.block i hi hm)⟩⟩
end Go.Proofs.YtbacahoihkpkpaaDoor
