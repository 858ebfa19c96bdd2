/- slices.SortedFunc over the keys of a table in order. -/
import Derived.Test.YtahkhecfnimdbaaDoorS3
import Derived.Shelf.SlicesQ.Reverse
namespace Go.Proofs.YtahkhecfnimdbaaDoor
open Go.RowKit Go.Shelf Go.Maps Go.Sort

/-- neighbours in order -/
def LtR (r s : Rec) : Prop := r.face < s.face ∨ (r.face = s.face ∧ r.addr < s.addr)
def OrdT (T : List Rec) : Prop := T.Pairwise LtR

theorem sortK_eq {ss l : List (Int × Int)} (hp : ss.Perm l) (hl : l.Pairwise fun x y => ltOf ordK x y = true) : sortK ss = l := by
  unfold sortK
  have tr : ∀ a b c : Int × Int, (!(ltOf ordK) b a) = true → (!(ltOf ordK) c b) = true → (!(ltOf ordK) c a) = true := fun a b c h1 h2 => by
    simp only [Bool.not_eq_true'] at *
    exact ordK_swo.ntrans c b a h2 h1
  have to : ∀ a b : Int × Int, ((!(ltOf ordK) b a) || (!(ltOf ordK) a b)) = true := fun a b => by
    rw [ordK_lt, ordK_lt]
    simp
    omega
  refine List.Perm.eq_of_pairwise (le := fun a b => (!(ltOf ordK) b a) = true) (fun a b _ _ h1 h2 => ?_) (List.pairwise_mergeSort tr to ss) (hl.imp ?_) ((List.mergeSort_perm ss _).trans hp)
  · simp only [Bool.not_eq_true'] at h1 h2
    exact ordK_total a b h2 h1
  · intro a b h
    rw [ordK_lt] at *
    simp at *
    omega
theorem ord_keys {T : List Rec} (h : OrdT T) : (T.map keyP).Pairwise fun x y => ltOf ordK x y = true := by
  rw [List.pairwise_map]
  refine List.Pairwise.imp ?_ h
  intro a b hab
  rw [ordK_lt]
  unfold keyP
  simpa [LtR] using hab

theorem kCs_at {xs : List (Int × Int)} {i : Nat} {x : Int × Int} (h : xs[i]? = some x) : (kCs xs)[i * 2]? = some (.int .i64 x.1) ∧ (kCs xs)[i * 2 + 1]? = some (.int .u32 x.2) := by
  induction xs generalizing i with
  | nil => simp at h
  | cons q L ih =>
    cases i with
    | zero => simp at h; subst h; exact ⟨rfl, rfl⟩
    | succ i =>
      simp at h
      obtain ⟨h1, h2⟩ := ih h
      have e : kCs (q :: L) = .int .i64 q.1 :: .int .u32 q.2 :: kCs L := by simp [kCs, kC]
      rw [e, show (i + 1) * 2 = i * 2 + 1 + 1 by omega, show i * 2 + 1 + 1 + 1 = (i * 2 + 1) + 1 + 1 by omega]
      simp only [List.getElem?_cons_succ]
      exact ⟨h1, h2⟩
theorem kCs_len (xs : List (Int × Int)) : (kCs xs).length = xs.length * 2 := by
  induction xs with
  | nil => rfl
  | cons q L ih =>
    have e : kCs (q :: L) = .int .i64 q.1 :: .int .u32 q.2 :: kCs L := by simp [kCs, kC]
    rw [e, List.length_cons, List.length_cons, ih, List.length_cons]
    omega
theorem cells_atT {cur : Array Value} {k j : Nat} {xs : List Value} {v : Value} (h : cur.toList.take k = xs) (hx : xs[j]? = some v) : cur[j]? = some v := by
  subst h
  rw [List.getElem?_take] at hx
  split at hx
  · rw [← Array.getElem?_toList]; exact hx
  · cases hx

/-- keys behind a slice's address -/
structure KL (W : World) (base : Option Addr) (g : Nat) (L : List (Int × Int)) : Prop where
  lt : g < W.heap.size
  nil : base = none → L = []
  row : ∀ i x, L[i]? = some x → base = some ⟨g, 0, none⟩ ∧ W.cell? ⟨g, i * 2, none⟩ = some (.int .i64 x.1) ∧ W.cell? ⟨g, i * 2 + 1, none⟩ = some (.int .u32 x.2)
theorem KL.of_block {W W' : World} {base : Option Addr} {g : Nat} {L : List (Int × Int)} (h : KL W base g L) (e : W'.heap[g]? = W.heap[g]?) : KL W' base g L := by
  have hl : g < W'.heap.size := by
    have := h.lt
    rcases Nat.lt_or_ge g W'.heap.size with h' | h'
    · exact h'
    · rw [Array.getElem?_eq_none h', Array.getElem?_eq_getElem this] at e; cases e
  have hc : ∀ o, W'.cell? ⟨g, o, none⟩ = W.cell? ⟨g, o, none⟩ := fun o => World.cell?_of_block (w := W) (a := ⟨g, o, none⟩) e
  exact ⟨hl, h.nil, fun i r hr => by obtain ⟨h0, h1, h2⟩ := h.row i r hr; exact ⟨h0, (hc _).trans h1, (hc _).trans h2⟩⟩
theorem KL.below {W W' : World} {base : Option Addr} {g : Nat} {L : List (Int × Int)} (h : KL W base g L) (hb : Below W.heap.size W W') : KL W' base g L := h.of_block (hb.block g h.lt)

theorem heap_sortWorldK_other (W : World) (blk off n : Nat) (dk : Array (Int × Int)) (os : Array Obj) (j : Nat) (h1 : j ≠ blk) (h2 : j < W.heap.size) : (sortWorldK kC 2 W blk off n dk os).heap[j]? = W.heap[j]? := by
  unfold sortWorldK
  rw [Go.Sort.heap_grow_old _ _ (by unfold putRowK putRow mapBlock; simp; exact h2)]
  unfold putRowK putRow mapBlock
  simp only [Array.getElem?_modify]
  rw [if_neg (Ne.symm h1)]
  rfl
theorem grown_sortWorldK (W : World) (blk off n : Nat) (dk : Array (Int × Int)) (os : Array Obj) : W.grownBy (sortWorldK kC 2 W blk off n dk os) (some blk) :=
  ⟨rfl, rfl, rfl, size_sortWorldK_c _ _ _ _ _ _ _ _, fun j hj hne => heap_sortWorldK_other W blk off n dk os j (fun e => hne (by rw [e])) hj⟩

theorem holdsK_of_row {W : World} {g _cap : Nat} {cur : Array Value} {ss : List (Int × Int)} (hg : W.heap[g]? = some (.cells cur 66 (0, 0))) (ht : cur.toList.take (ss.length * 2) = kCs ss) : HoldsK kC 2 W g 0 ss.toArray := by
  intro j hj
  rw [size_flatK] at hj
  rw [get_flatK _ _ _ _ hj]
  simp only [List.size_toArray] at hj
  refine ⟨?_, by simp [World.frozen?, hg]⟩
  obtain ⟨i, c, hc, rfl⟩ : ∃ i c, c < 2 ∧ j = i * 2 + c := ⟨j / 2, j % 2, by omega, by omega⟩
  have hi : i < ss.length := by omega
  obtain ⟨x, hx⟩ : ∃ x, ss[i]? = some x := ⟨_, List.getElem?_eq_getElem hi⟩
  obtain ⟨k1, k2⟩ := kCs_at hx
  have e1 : (i * 2 + c) / 2 = i := by omega
  have e2 : (i * 2 + c) % 2 = c := by omega
  have e3 : (ss.toArray)[i]! = x := by
    rw [getElem!_pos _ i (by simpa using hi)]
    simp only [List.getElem_toArray]
    rw [List.getElem?_eq_getElem hi] at hx
    exact Option.some.inj hx
  rw [e1, e2, e3]
  have hcell : ∀ o, W.cell? ⟨g, o, none⟩ = cur[o]? := fun o => by simp [World.cell?, hg]
  rw [Nat.zero_add, hcell]
  have : c = 0 ∨ c = 1 := by omega
  rcases this with rfl | rfl
  · exact cells_atT ht k1
  · exact cells_atT ht k2
theorem KL.of_holds {W : World} {g : Nat} {ks : List (Int × Int)} (h : HoldsK kC 2 W g 0 ks.toArray) (hg : g < W.heap.size) : KL W (some ⟨g, 0, none⟩) g ks := by
  refine ⟨hg, fun e => (by cases e), fun i x hx => ⟨rfl, ?_⟩⟩
  have hi : i < ks.length := (List.getElem?_eq_some_iff.1 hx).1
  have e3 : (ks.toArray)[i]! = x := by
    rw [getElem!_pos _ i (by simpa using hi)]
    simp only [List.getElem_toArray]
    rw [List.getElem?_eq_getElem hi] at hx
    exact Option.some.inj hx
  have hc := HoldsK.cells h (fun _ => rfl) (i := i) (by simpa using hi)
  rw [e3] at hc
  have h0 := hc 0 (.int .i64 x.1) rfl
  have h1 := hc 1 (.int .u32 x.2) rfl
  simp only [Nat.zero_add, Addr.add_lit] at h0 h1
  exact ⟨h0, h1⟩

set_option maxHeartbeats 1000000 in
theorem SortedFunc_any (Bm b nn : Nat) (T : List Rec) (D0 : DataW Unit) (hT : Tab klR recD D0 T) (hwf : ∀ r ∈ T, r.Wf) (hA : Apart T) (hO : OrdT T) (hlen : T.length < 1000) (w : World) (hBm : w.cell? ⟨Bm, 0, none⟩ = some (.map (some b))) (hown : w.ownsMap Tryd.prog 66 recR b nn D0) :
    Calls Tryd.prog 47 #[.func (.func 62) #[] #[.pointer (some ⟨Bm, 0, none⟩)], .func (.func 49) #[] #[]] w fun e w' => ∃ (base : Option Addr) (g cap : Nat), e = .returned (.slice base T.length cap) ∧ KL w' base g (T.map keyP) ∧ (T ≠ [] → w.heap.size ≤ g) ∧ Below w.heap.size w w' := by
  have hc := Lib.hid (Collect_any Bm b nn T D0 hT hwf hA hlen w hBm hown)
  have hK := ord_keys hO
  have hBl : Bm < w.heap.size := lt_cell hBm
  clear hT hwf hA hown hBm
  go_enter Tryd.func47, Tryd.ntmps47
  go_wp2_with (go_at_call 60; refine hc.out.mono ?_; rintro e w1 ⟨v, ss, rfl, hS, hrow, hb⟩)
  have hs := sortK_eq hS hK
  have hsl : ss.length = T.length := by simpa using hS.length_eq
  rcases hrow.2 with ⟨rfl, h0⟩ | ⟨g, cap, cur, rfl, hbg, hcell, hcap, hmax, hsz, htake⟩
  · have hT0 : T = [] := List.eq_nil_of_length_eq_zero (by omega)
    subst hT0
    have hn := Lib.hid (SortFunc_none w1 0)
    have HB := Lib.hid hb
    clear hrow hS hs hsl hK hb
    go_wp2_with (go_at_call 61; refine hn.out.mono ?_; rintro e w2 ⟨rfl, rfl⟩)
    go_ret
    exact ⟨none, Bm, 0, rfl, ⟨Nat.lt_of_lt_of_le hBl HB.out.size, fun _ => rfl, fun i x hx => by simp at hx⟩, fun h => absurd rfl h, HB.out⟩
  · have hH : HoldsK kC 2 w1 g 0 ss.toArray := holdsK_of_row (_cap := cap) hcell htake
    have hg1 : g < w1.heap.size := (Array.getElem?_eq_some_iff.1 hcell).1
    have hn := SortFunc_any g cap ss.toArray w1 hH hg1 (by simp; omega)
    simp only [List.size_toArray] at hn
    rw [hs, hsl] at hn
    have HL := Lib.hid (show (T.map keyP).toArray.size = ss.toArray.size by simp [hsl])
    have Hn := Lib.hid hn
    have HB := Lib.hid hb
    have HH := Lib.hid hH
    rw [hsl]
    clear hrow hS hs hK hb hn hH hcell htake
    go_wp2_with (go_at_call 61; refine Hn.out.mono ?_; rintro e w2 ⟨rfl, n, os, rfl⟩)
    go_ret
    refine ⟨_, g, cap, rfl, KL.of_holds (holdsK_sortWorldK_c _ _ _ _ _ _ _ _ _ HH.out hg1 HL.out) (Nat.lt_of_lt_of_le hg1 (size_sortWorldK_c _ _ _ _ _ _ _ _)), fun _ => hbg, HB.out.grown (grown_sortWorldK _ _ _ _ _ _) HB.out.size (fun k e => by cases e; exact hbg)⟩
end Go.Proofs.YtahkhecfnimdbaaDoor
