/- slices.Clone of rows, sorted, rows, All. -/
import Derived.Test.YtkigoihdmojpfaaK11
import Derived.Test.YtkigoihdmojpfaaShelf
import Derived.Lib.SliceRun
namespace Go.Proofs.Ytkigoihdmojpfaa
open Go.RowKit Go.Shelf Go.Sort

instance : Inhabited TR := ⟨⟨0, 0, 0, 0⟩⟩

set_option maxRecDepth 100000 in
set_option maxHeartbeats 4000000 in
theorem SClone_nil (n c : Nat) (w : World) : Calls Try.prog 44 #[.slice none n c] w fun e w' => e = .returned (.slice none 0 0) ∧ w = w' := by
  have hnn := fun (w : World) => Lib.run_eql_slice_nil (P := Try.prog) w 72 85 none n c 0 0 Try.underlying72
  go_enter Try.func44, Try.ntmps44
  go_wp2_with fail
  go_ret
  exact ⟨rfl, rfl⟩
set_option maxRecDepth 100000 in
set_option maxHeartbeats 4000000 in
theorem SClone_any (base : Addr) (g cap : Nat) (L : List TR) (w : World) (hS : SL w (some base) g 0 L) (hl : L.length < 100000) :
    Calls Try.prog 44 #[.slice (some base) L.length cap] w fun e w' => ∃ g' cap', e = .returned (.slice (some ⟨g', 0, none⟩) L.length cap') ∧ w'.ownsRow w.heap.size 85 4 (.slice (some ⟨g', 0, none⟩) L.length cap') L.length (tCs L) ∧ Below w.heap.size w w' := by
  have hnn := fun (w : World) => Lib.run_eql_slice_nil (P := Try.prog) w 72 85 (some base) L.length cap 0 0 Try.underlying72
  obtain ⟨i0, hii, hz0, hz1, hz2⟩ := info_parts info85
  have RA : (w.alloc (.cells #[] 85)).ownsRow w.heap.size 85 4 (.slice (some ⟨w.heap.size, 0, none⟩) 0 0) 0 [] := World.ownsRow_made w #[] 0 (Nat.le_refl _) (by unfold maxLen; omega) rfl
  have SA := Lib.hid ((hS.below (below1 w (.cells #[] 85))).src)
  have HRA := Lib.hid RA
  have HBA := Lib.hid (below1 w (.cells #[] 85))
  clear hS RA
  go_enter Try.func44, Try.ntmps44
  go_wp2_with (at_builtin; refine wpList_append_src _ rfl _ _ _ rfl w.heap.size 85 i0 _ 4 32 Try.underlying72 hii hz0 hz1 hz2 rfl (by omega) (.slice (some ⟨w.heap.size, 0, none⟩) 0 0) 0 [] rfl HRA.out (some base) L.length cap (tCs L) (Or.inl (by simp)) rfl SA.out (tCs_one _) L.length (by omega) (tCs L) rfl (by unfold maxLen; omega) (by omega) HBA.out.size ?_; intro g1 c1 w7 hown1 hgrow1 hg1 hat1; have hB := HBA.out.grown hgrow1 HBA.out.size (fun k e => by simp [Value.ownBlock] at e; omega); have HO1 := Lib.hid hown1; have HB := Lib.hid hB; clear hown1 hgrow1 hg1 hat1 hB)
  go_ret
  exact ⟨g1, c1, rfl, HO1.out, HB.out⟩

theorem ltOf_T (x y : TR) : ltOf ordT x y = ltT x y := ordT_lt x y
theorem ordT_swo : SWO (ltOf ordT) where
  irrefl x := by rw [ltOf_T]; exact irr weakT x
  trans x y z h1 h2 := by rw [ltOf_T] at *; exact ltT_trans h1 h2
  ntrans x y z h1 h2 := by rw [ltOf_T] at *; exact weakT.ntr h1 h2
theorem ordT_total (x y : TR) (h1 : ltOf ordT x y = false) (h2 : ltOf ordT y x = false) : x = y := by
  rw [ltOf_T] at *; exact ltT_tri h1 h2
theorem isAgg85 (w : World) : (isAgg 85).run Try.prog w = .ok true w := by kernel_rfl
theorem sizeOf85 (w : World) : (Go.sizeOf 85).run Try.prog w = .ok 4 w := by kernel_rfl
theorem cmpLays51 (blk off size : Nat) (w : World) : CmpLays Try.prog 51 #[] tC 4 ordT blk off size w :=
  fun _ _ _ _ x y => order_g x y _
/-- rows in their order -/
def sortT (L : List TR) : List TR := L.mergeSort fun x y => !(ltOf ordT) y x
theorem SortFunc_any (blk cap : Nat) (d : Array TR) (w : World) (hH : HoldsK tC 4 w blk 0 d) (hblk : blk < w.heap.size) (hsz : d.size < 100000) :
    Calls Try.prog 58 #[.slice (some ⟨blk, 0, none⟩) d.size cap, .func (.func 51) #[] #[]] w fun e w' => e = .returned (.tuple #[]) ∧ ∃ n os, w' = sortWorldK tC 4 w blk 0 n (sortT d.toList).toArray os :=
  AnyQ.slices_SortFunc_total Try.sortK 4 isAgg85 sizeOf85 tC (fun _ => rfl) (fun x v hv => by simp [tC] at hv; rcases hv with rfl | rfl | rfl | rfl <;> rfl) ordT ordT_swo 51 #[] blk 0 cap d w
    (enters_of Try.func51 (by kernel_rfl) rfl) (cmpLays51 blk 0 d.size w) hH hblk (by omega) ordT_total
theorem SortFunc_none (w : World) (cap : Nat) : Calls Try.prog 58 #[.slice none 0 cap, .func (.func 51) #[] #[]] w fun e w' => e = .returned (.tuple #[]) ∧ w' = w :=
  AnyF.slices_SortFunc_none Try.sortK none cap _ w
theorem sortT_eq {L S : List TR} (hp : L.Perm S) (hO : OrdS S) : sortT L = S := by
  unfold sortT
  have tr : ∀ a b c : TR, (!(ltOf ordT) b a) = true → (!(ltOf ordT) c b) = true → (!(ltOf ordT) c a) = true := fun a b c h1 h2 => by
    simp only [Bool.not_eq_true'] at *
    exact ordT_swo.ntrans c b a h2 h1
  have tt : ∀ a b : TR, ((!(ltOf ordT) b a) || (!(ltOf ordT) a b)) = true := fun a b => by
    rw [ltOf_T, ltOf_T]
    cases h : ltT b a with
    | false => simp
    | true => rw [weakT.asym h]; simp
  refine List.Perm.eq_of_pairwise (le := fun a b => (!(ltOf ordT) b a) = true) (fun a b _ _ h1 h2 => ?_) (List.pairwise_mergeSort tr tt L) (hO.imp ?_) ((List.mergeSort_perm L _).trans hp)
  · simp only [Bool.not_eq_true'] at h1 h2
    exact ordT_total a b h2 h1
  · intro a b h
    rw [ltOf_T, weakT.asym h]
    rfl

theorem heap_sortW_other (W : World) (blk off n : Nat) (dk : Array TR) (os : Array Obj) (j : Nat) (h1 : j ≠ blk) (h2 : j < W.heap.size) : (sortWorldK tC 4 W blk off n dk os).heap[j]? = W.heap[j]? := by
  unfold sortWorldK
  rw [Go.Sort.heap_grow_old _ _ (by unfold putRowK putRow mapBlock; simp; exact h2)]
  unfold putRowK putRow mapBlock
  simp only [Array.getElem?_modify]
  rw [if_neg (Ne.symm h1)]
  rfl
theorem grown_sortW (W : World) (blk off n : Nat) (dk : Array TR) (os : Array Obj) : W.grownBy (sortWorldK tC 4 W blk off n dk os) (some blk) :=
  ⟨rfl, rfl, rfl, size_sortWorldK_c _ _ _ _ _ _ _ _, fun j hj hne => heap_sortW_other W blk off n dk os j (fun e => hne (by rw [e])) hj⟩
theorem arr_at {ss : List TR} {i : Nat} {x : TR} (hx : ss[i]? = some x) : (ss.toArray)[i]! = x := by
  have hi := (List.getElem?_eq_some_iff.1 hx).1
  rw [getElem!_pos _ i (by simpa using hi)]
  simp only [List.getElem_toArray]
  rw [List.getElem?_eq_getElem hi] at hx
  exact Option.some.inj hx
theorem holdsK_of_own {W : World} {b g cap : Nat} {L : List TR} (h : W.ownsRow b 85 4 (.slice (some ⟨g, 0, none⟩) L.length cap) L.length (tCs L)) : HoldsK tC 4 W g 0 L.toArray := by
  intro j hj
  rw [size_flatK] at hj
  rw [get_flatK _ _ _ _ hj]
  simp only [List.size_toArray] at hj
  refine ⟨?_, by rw [Nat.zero_add]; exact h.frozenAt j⟩
  obtain ⟨i, c, hc, rfl⟩ : ∃ i c, c < 4 ∧ j = i * 4 + c := ⟨j / 4, j % 4, by omega, by omega⟩
  have hi : i < L.length := by omega
  obtain ⟨x, hx⟩ : ∃ x, L[i]? = some x := ⟨_, List.getElem?_eq_getElem hi⟩
  have e1 : (i * 4 + c) / 4 = i := by omega
  have e2 : (i * 4 + c) % 4 = c := by omega
  rw [e1, e2, arr_at hx, Nat.zero_add, h.cellAt _ hj, tCs_at hx hc]
  rcases (show c = 0 ∨ c = 1 ∨ c = 2 ∨ c = 3 by omega) with rfl | rfl | rfl | rfl <;> rfl
theorem SL.of_holds {W : World} {g : Nat} {ks : List TR} (h : HoldsK tC 4 W g 0 ks.toArray) (hg : g < W.heap.size) : SL W (some ⟨g, 0, none⟩) g 0 ks := by
  refine ⟨hg, fun i x hx => ⟨rfl, ?_⟩⟩
  have hi : i < ks.length := (List.getElem?_eq_some_iff.1 hx).1
  have hc := HoldsK.cells h (fun _ => rfl) (i := i) (by simpa using hi)
  rw [arr_at hx] at hc
  have h0 := hc 0 (.int .i64 x.kind) rfl
  have h1 := hc 1 (.int .u32 x.addr) rfl
  have h2 := hc 2 (.int .i64 x.len) rfl
  have h3 := hc 3 (.int .i64 x.due) rfl
  simp only [Nat.zero_add, Addr.add_lit] at h0 h1 h2 h3 ⊢
  exact ⟨h0, h1, h2, h3⟩

/-- a list in order that was made -/
def Rows (w w' : World) (S : List TR) (v : Value) : Prop := ∃ base g cap, v = .slice base S.length cap ∧ SL w' base g 0 S ∧ (base = none ∨ w.heap.size ≤ g) ∧ Below w.heap.size w w'
set_option maxRecDepth 100000 in
set_option maxHeartbeats 4000000 in
theorem sorted_any (v : Value) (b : Nat) (L S : List TR) (w : World) (h0 : 0 < w.heap.size) (hr : w.ownsRow b 85 4 v L.length (tCs L)) (hp : L.Perm S) (hO : OrdS S) (hl : L.length < 100000) :
    Calls Try.prog 50 #[v, .func (.func 51) #[] #[]] w fun e w' => ∃ v', e = .returned v' ∧ Rows w w' S v' := by
  obtain ⟨base, g, cap, rfl, _, _, hS, hb, _, hN⟩ := SL.of_own h0 hr
  have hlen := hp.length_eq
  have hs := sortT_eq hp hO
  clear hr hO hp
  rcases hb with rfl | rfl
  · have e1 := hN rfl
    simp at e1
    obtain ⟨rfl, rfl⟩ := e1
    have hS0 : S = [] := List.eq_nil_of_length_eq_zero (by simpa using hlen.symm)
    subst hS0
    have HN := Lib.hid (fun w => SortFunc_none w 0)
    have HG := Lib.hid h0
    clear hS hs hlen hN h0
    go_enter Try.func50, Try.ntmps50
    go_wp2_with (first | (go_at_call 44; (with_reducible refine (SClone_nil 0 0 _).mono ?_); rintro e w' ⟨rfl, rfl⟩) | (go_at_call 58; (with_reducible refine (HN.out _).mono ?_); rintro e w' ⟨rfl, rfl⟩))
    go_ret
    exact ⟨_, rfl, none, 0, 0, rfl, SL.nil0 HG.out 0, .inl rfl, Below.refl _ _⟩
  · have HC := Lib.hid (SClone_any ⟨g, 0, none⟩ g cap L w hS hl)
    have Hs := Lib.hid hs
    have Hl := Lib.hid hlen
    have HB0 := Lib.hid hl
    clear hS hs hlen hN
    go_enter Try.func50, Try.ntmps50
    go_upto_region 2 with (go_at_call 44; (with_reducible refine HC.out.mono ?_); rintro e w1 ⟨g1, c1, rfl, hown, hb1⟩; have HOwn := Lib.hid hown; have HB1 := Lib.hid hb1; clear hown hb1)
    have hH := holdsK_of_own HOwn.out
    have hg1 : w.heap.size ≤ g1 ∧ g1 < w1.heap.size := HOwn.out.lt g1 rfl
    have hn := SortFunc_any g1 c1 L.toArray w1 hH hg1.2 (by simpa using HB0.out)
    simp only [List.size_toArray] at hn
    rw [Hs.out] at hn
    have HH := Lib.hid hH
    have HG1 := Lib.hid hg1
    have Hn := Lib.hid hn
    have HSz := Lib.hid (show S.toArray.size = L.toArray.size by simp [Hl.out])
    clear hH hg1 hn
    go_wp2_with (go_at_call 58; (with_reducible refine Hn.out.mono ?_); rintro e w2 ⟨rfl, n, os, rfl⟩)
    go_ret
    refine ⟨.slice (some ⟨g1, 0, none⟩) L.length c1, rfl, some ⟨g1, 0, none⟩, g1, c1, by rw [Hl.out], SL.of_holds (holdsK_sortWorldK_c _ _ _ _ _ _ _ _ _ HH.out HG1.out.2 HSz.out) (Nat.lt_of_lt_of_le HG1.out.2 (size_sortWorldK_c _ _ _ _ _ _ _ _)), .inr HG1.out.1, HB1.out.grown (grown_sortW _ _ _ _ _ _) HB1.out.size (fun k e => by cases e; exact HG1.out.1)⟩
set_option maxRecDepth 100000 in
set_option maxHeartbeats 4000000 in
theorem rows_any (q : Nat) (F : List Nat) (S : List TR) (w : World) (h : Qu w q F S) (hl : S.length < 100000) :
    Calls Try.prog 33 #[.pointer (some ⟨q, 0, none⟩)] w fun e w' => ∃ v', e = .returned v' ∧ Rows w w' S v' := by
  obtain ⟨p, m, v, L, h1, h2, h3, rfl⟩ := h
  have HS := Lib.hid (sorted_any v 0 L S w (by have := h1.qlt; omega) h1.hs.row h2 h3 (by rw [h2.length_eq]; exact hl))
  have H1 := Lib.hid h1
  have c0 := h1.c
  have c1 := h1.hs.c0
  clear h1 h2 h3
  go_enter Try.func33, Try.ntmps33
  go_wp2_with (first | (go_at_call 35; (with_reducible refine (none_t _ _ _ H1.out.c).mono ?_); rintro e w' ⟨rfl, rfl⟩) | (go_at_call 50; (with_reducible refine HS.out.mono ?_); rintro e w' ⟨v', rfl, hr⟩; have HR := Lib.hid hr; clear hr))
  go_ret
  exact ⟨_, rfl, HR.out⟩
set_option maxRecDepth 100000 in
set_option maxHeartbeats 4000000 in
theorem rows_nil (w : World) : Calls Try.prog 33 #[.pointer none] w fun e w' => e = .returned (.slice none 0 0) ∧ w = w' := by
  go_enter Try.func33, Try.ntmps33
  go_wp2_with (go_at_call 35; (with_reducible refine (none_nil _).mono ?_); rintro e w' ⟨rfl, rfl⟩)
  go_ret
  exact ⟨rfl, rfl⟩
/-- the function value of All: the box of its list -/
def AllV (w w' : World) (S : List TR) (v : Value) : Prop := ∃ B base g cap, v = .func (.func 34) #[] #[.pointer (some ⟨B, 0, none⟩)] ∧ w'.heap[B]? = some (.cells #[.slice base S.length cap] 72 (0, 0)) ∧ SL w' base g 0 S ∧ w.heap.size ≤ B ∧ (base = none ∨ w.heap.size ≤ g) ∧ Below w.heap.size w w'
set_option maxRecDepth 100000 in
set_option maxHeartbeats 4000000 in
theorem All_any (q : Nat) (F : List Nat) (S : List TR) (w : World) (h : Qu w q F S) (hl : S.length < 100000) :
    Calls Try.prog 11 #[.pointer (some ⟨q, 0, none⟩)] w fun e w' => ∃ v', e = .returned v' ∧ AllV w w' S v' := by
  have HR := Lib.hid (rows_any q F S w h hl)
  clear h
  go_enter Try.func11, Try.ntmps11
  go_wp2_with (go_at_call 33; (with_reducible refine HR.out.mono ?_); rintro e w1 ⟨v', rfl, hr⟩; obtain ⟨base, g, cap, rfl, hS, hg, hb⟩ := hr; have HS := Lib.hid hS; have HG := Lib.hid hg; have HB := Lib.hid hb; clear hS hg hb)
  go_ret
  exact ⟨_, rfl, w1.heap.size, base, g, cap, rfl, heap_alloc_new w1 _, HS.out.below (below1 _ _), HB.out.size, HG.out, bthen HB.out (below1 _ _)⟩
set_option maxRecDepth 100000 in
set_option maxHeartbeats 4000000 in
theorem All_nil (w : World) :
    Calls Try.prog 11 #[.pointer none] w fun e w' => ∃ v', e = .returned v' ∧ AllV w w' [] v' := by
  go_enter Try.func11, Try.ntmps11
  go_wp2_with (go_at_call 33; (with_reducible refine (rows_nil _).mono ?_); rintro e w1 ⟨rfl, rfl⟩)
  go_ret
  exact ⟨_, rfl, w.heap.size, none, 0, 0, rfl, heap_alloc_new w _, SL.nil0 (by simp) 0, Nat.le_refl _, .inl rfl, below1 _ _⟩
end Go.Proofs.Ytkigoihdmojpfaa
