/- slices.SortFunc, slices.Clone, sorted and Sort of package prefix: the prefixes in order, each once. -/
import Derived.Test.YtmmoccceafcfkaaDoorS10
import Derived.Test.YtmmoccceafcfkaaDoorQ3
import Derived.Test.YtmmoccceafcfkaaDoorQ1
import Derived.Lib.SliceRun
namespace Go.Proofs.YtmmoccceafcfkaaDoor
open Go.RowKit Go.Shelf Go.Sort
open Go.Lib (keeps compactUpTo CompInv keeps_lt_one keeps_pos keeps_neg)

theorem blen_nat (n : Nat) (h : n ≤ 60) : ∃ L : Nat, blen n = (L : Int) ∧ L ≤ 1000 := by
  have key : ∀ k : Fin 61, 0 ≤ blen k.val ∧ blen k.val ≤ 1000 := by decide +kernel
  have := key ⟨n, by omega⟩
  exact ⟨(blen n).toNat, by simp only at this; omega, by simp only at this; omega⟩
set_option maxRecDepth 100000 in
set_option maxHeartbeats 4000000 in
theorem sortf_any (g cap : Nat) (d : Array Pf) (w : World) (hA : SW w g d w) (hn : d.size ≤ 49) :
    Calls Tryd.prog 98 #[.slice (some ⟨g, 0, none⟩) d.size cap, fv] w fun e w' => PdqPost w g 0 d.size d e w' := by
  obtain ⟨L, hL, hL2⟩ := blen_nat d.size (by omega)
  have HL := Lib.hid (fun W => Len_small d.size W (by omega) (by omega))
  rw [hL] at HL
  have HP := Lib.hid (pdq_any d.size g cap 0 d.size L d w (by omega) hA (by omega) (Nat.le_refl _) hn hL2 (Or.inl rfl))
  rw [show ((0 : Nat) : Int) = 0 from rfl] at HP
  have wr : IntKind.u64.wrap (d.size : Int) = d.size := by simp [IntKind.wrap, IntKind.bits, IntKind.signed]; omega
  clear hL hA
  unfold fv at *
  go_enter Tryd.func98, Tryd.ntmps98
  go_wp2_with (first
    | (go_at_call 109; (with_reducible refine (HL.out _).mono ?_); rintro e w' ⟨rfl, rfl⟩)
    | (go_at_call 108; (with_reducible refine HP.out.mono ?_); rintro e w' ⟨rfl, h⟩; have HH := Lib.hid h; clear h))
  go_end0
  exact ⟨rfl, HH.out⟩
set_option maxRecDepth 100000 in
set_option maxHeartbeats 4000000 in
theorem clone_any (base : Addr) (g cap : Nat) (L : List Pf) (w : World) (hS : KL w (some base) g L) (hl : L.length < 100000) :
    Calls Tryd.prog 97 #[.slice (some base) L.length cap] w fun e w' => ∃ g' cap', e = .returned (.slice (some ⟨g', 0, none⟩) L.length cap') ∧ w'.ownsRow w.heap.size 25 2 (.slice (some ⟨g', 0, none⟩) L.length cap') L.length (kCs L) ∧ Go.RowKit.Below w.heap.size w w' := by
  have hnn := fun (w : World) => Lib.run_eql_slice_nil (P := Tryd.prog) w 86 25 (some base) L.length cap 0 0 Tryd.underlying86
  obtain ⟨i0, hii, hz0, hz1, hz2⟩ := info_parts info25
  have RA : (w.alloc (.cells #[] 25)).ownsRow w.heap.size 25 2 (.slice (some ⟨w.heap.size, 0, none⟩) 0 0) 0 [] := World.ownsRow_made w #[] 0 (Nat.le_refl _) (by unfold maxLen; omega) rfl
  have b1 : Go.RowKit.Below w.heap.size w (w.alloc (.cells #[] 25)) := (Go.RowKit.Below.refl _ w).alloc (Nat.le_refl _) _
  have SA := Lib.hid ((hS.below b1).src)
  have HRA := Lib.hid RA
  have HBA := Lib.hid b1
  clear hS RA b1
  go_enter Tryd.func97, Tryd.ntmps97
  go_wp2_with (at_builtin; refine wpList_append_src _ rfl _ _ _ rfl w.heap.size 25 i0 _ 2 16 Tryd.underlying86 hii hz0 hz1 hz2 rfl (by omega) (.slice (some ⟨w.heap.size, 0, none⟩) 0 0) 0 [] rfl HRA.out (by simp) (some base) L.length cap (kCs L) rfl SA.out (kCs_one _) L.length (by omega) (kCs L) rfl (by unfold maxLen; omega) (by omega) HBA.out.size ?_; intro g1 c1 w1 hown1 hgrow1 hge1 hbl1; have HO1 := Lib.hid hown1; have hB := HBA.out.grown hgrow1 HBA.out.size (fun k e => by simp [Value.ownBlock] at e; omega); have HB := Lib.hid hB; clear hown1 hgrow1 hB)
  go_ret
  exact ⟨g1, c1, rfl, HO1.out, HB.out⟩
theorem ar_of_row {W : World} {B g cap : Nat} {L : List Pf} (h : W.ownsRow B 25 2 (.slice (some ⟨g, 0, none⟩) L.length cap) L.length (kCs L)) :
    AR W g L.toArray ∧ B ≤ g ∧ g < W.heap.size ∧ L.length ≤ cap := by
  rcases h.2 with ⟨h0, _⟩ | ⟨g', cap', cur, hv, hb, hc, h1, h2, h3, h4⟩
  · cases h0
  · cases hv
    have hg := (Array.getElem?_eq_some_iff.1 hc).1
    refine ⟨fun i hi => ?_, hb, hg, h1⟩
    have hi' : i < L.length := by simpa using hi
    obtain ⟨k1, k2⟩ := kCs_at (List.getElem?_eq_getElem hi')
    have ha : ∀ {j : Nat} {u : Value}, (kCs L)[j]? = some u → cur[j]? = some u := fun {j u} hj => by
      rw [← h4, List.getElem?_take] at hj
      split at hj
      · simpa using hj
      · cases hj
    have e : L.toArray[i]! = L[i] := by simp [hi']
    rw [e, cell_heap hc, cell_heap hc]
    have hz : ∀ o, W.frozen? ⟨g, o, none⟩ = false := fun o => by simp [World.frozen?, hc]
    exact ⟨⟨ha k1, ha k2⟩, hz _, hz _⟩
/-- what a list in order keeps of each run -/
theorem compact_ok {d : Array Pf} (hs : SortedIn pltB 0 d.size d) : ∀ m, m ≤ d.size → OrdP (compactUpTo d m) ∧ (∀ x, x ∈ compactUpTo d m ↔ ∃ i, i < m ∧ d[i]! = x)
  | 0, _ => ⟨by simp [compactUpTo, OrdP], fun x => by simp [compactUpTo]⟩
  | m + 1, hm => by
    obtain ⟨h1, h2⟩ := compact_ok hs m (by omega)
    rw [Go.Lib.compactUpTo_succ]
    by_cases hk : keeps d m = true
    · rw [if_pos hk]
      refine ⟨?_, fun x => ?_⟩
      · unfold OrdP
        rw [List.pairwise_append]
        refine ⟨h1, by simp, fun x hx y hy => ?_⟩
        rw [List.mem_singleton] at hy
        subst hy
        obtain ⟨i, hi, rfl⟩ := (h2 x).1 hx
        have n1 := hs i m (by omega) hi (by omega)
        rw [pltB_not] at n1
        rcases Classical.em (plt d[i]! d[m]!) with h | h
        · exact h
        · exfalso
          have e := plt_tri h n1
          have hp : d[m - 1]! = d[m]! := by
            by_cases e2 : i = m - 1
            · rw [← e2]; exact e
            · have n2 := hs i (m - 1) (by omega) (by omega) (by omega)
              have n3 := hs (m - 1) m (by omega) (by omega) (by omega)
              rw [pltB_not] at n2 n3
              rw [e] at n2
              exact (plt_tri n3 n2).symm
          simp [keeps] at hk
          rcases hk with hk | hk
          · omega
          · exact hk hp.symm
      · rw [List.mem_append, List.mem_singleton, h2]
        constructor
        · rintro (⟨i, hi, e⟩ | e)
          · exact ⟨i, by omega, e⟩
          · exact ⟨m, by omega, e.symm⟩
        · rintro ⟨i, hi, e⟩
          by_cases e2 : i = m
          · subst e2; exact .inr e.symm
          · exact .inl ⟨i, by omega, e⟩
    · rw [if_neg hk, List.append_nil]
      refine ⟨h1, fun x => ?_⟩
      rw [h2]
      constructor
      · rintro ⟨i, hi, e⟩; exact ⟨i, by omega, e⟩
      · rintro ⟨i, hi, e⟩
        by_cases e2 : i = m
        · subst e2
          simp [keeps] at hk
          exact ⟨i - 1, by omega, by rw [← hk.2]; exact e⟩
        · exact ⟨i, by omega, e⟩
theorem mem_toArray {L : List Pf} (x : Pf) : x ∈ L ↔ ∃ i, i < L.toArray.size ∧ L.toArray[i]! = x := by
  rw [List.mem_iff_getElem]
  constructor
  · rintro ⟨i, hi, e⟩; exact ⟨i, by simpa using hi, by simp [hi, e]⟩
  · rintro ⟨i, hi, e⟩
    have hi' : i < L.length := by simpa using hi
    exact ⟨i, hi', by simpa [hi'] using e⟩
theorem perm_mem {d d' : Array Pf} (h : PermIn 0 d.size d d') (x : Pf) : (∃ i, i < d'.size ∧ d'[i]! = x) ↔ ∃ i, i < d.size ∧ d[i]! = x := by
  have hp := h.2.2
  have e1 : d.extract 0 d.size = d := by simp
  have e2 : d'.extract 0 d.size = d' := by rw [← h.1]; simp
  rw [e1, e2] at hp
  have m1 := mem_toArray (L := d'.toList) x
  have m2 := mem_toArray (L := d.toList) x
  simp only [Array.toArray_toList] at m1 m2
  rw [← m1, ← m2, hp.mem_iff]
set_option maxRecDepth 100000 in
set_option maxHeartbeats 4000000 in
/-- sorted, with the order of prefixes -/
theorem sorted_any (base : Addr) (g cap : Nat) (L : List Pf) (w : World) (hS : KL w (some base) g L) (hl : L.length ≤ 49) :
    Calls Tryd.prog 76 #[.slice (some base) L.length cap, fv] w fun e w' => ∃ v M, e = .returned v ∧ KSl w' v M ∧ OrdP M ∧ (∀ x, x ∈ M ↔ x ∈ L) ∧ Go.RowKit.Below w.heap.size w w' := by
  have HC := Lib.hid (clone_any base g cap L w hS (by omega))
  have HS := Lib.hid (fun g cap (d : Array Pf) W h hn => sortf_any g cap d W h hn)
  have HK := Lib.hid (fun g cap (d : Array Pf) W h hn hc => compact_any g cap d W h hn hc)
  clear hS
  unfold fv at *
  go_enter Tryd.func76, Tryd.ntmps76
  go_upto_region 2 with (go_at_call 97; (with_reducible refine HC.out.mono ?_); rintro e w1 ⟨g1, c1, rfl, hr, hb⟩; have HB := Lib.hid hb; have HR := Lib.hid (ar_of_row hr); clear hr hb)
  have hsz : L.toArray.size = L.length := by simp
  have HS2 := Lib.hid (HS.out g1 c1 L.toArray w1 (SW.start HR.out.1 HR.out.2.2.1) (by omega))
  rw [hsz] at HS2
  have HSZ := Lib.hid hsz
  clear hsz
  go_upto_region 3 with (go_at_call 98; (with_reducible refine HS2.out.mono ?_); rintro e w2 ⟨rfl, d', q1, q2, q3, q4⟩; have HW := Lib.hid q1; have HP := Lib.hid q3; have HO := Lib.hid q4; have HD := Lib.hid (q2.trans HSZ.out); clear q1 q2 q3 q4)
  have HK2 := Lib.hid (HK.out g1 c1 d' w2 HW.out.rowW (by rw [HD.out]; omega) (by rw [HD.out]; exact HR.out.2.2.2))
  rw [HD.out] at HK2
  go_wp2_with (go_at_call 99; (with_reducible refine HK2.out.mono ?_); rintro e w3 ⟨rfl, q1, q2⟩; have HW3 := Lib.hid q1; have HB3 := Lib.hid q2; clear q1 q2)
  go_ret
  have hO := HO.out
  have hP := HP.out
  rw [← HSZ.out] at hO hP
  have hsz' : d'.size = L.toArray.size := by rw [HD.out, HSZ.out]
  rw [← hsz'] at hO
  obtain ⟨z1, z2⟩ := compact_ok hO d'.size (Nat.le_refl _)
  refine ⟨_, compactUpTo d' d'.size, rfl, ⟨_, g1, c1, rfl, HW3.out, ?_⟩, z1, fun x => ?_, ?_⟩
  · have : (compactUpTo d' d'.size).length ≤ d'.size := by
      unfold compactUpTo
      rw [List.length_map]
      exact Nat.le_trans (List.length_filter_le _ _) (by simp)
    have h2 := HR.out.2.2.2
    have h3 := HD.out
    omega
  · rw [z2, perm_mem hP, ← mem_toArray]
  · have hge := HR.out.2.1
    exact HB.out.trans ((HW.out.kb.trans HB3.out).below (by simpa using hge) HB.out.size)
set_option maxRecDepth 100000 in
set_option maxHeartbeats 4000000 in
theorem Sort_any (base : Addr) (g cap : Nat) (L : List Pf) (w : World) (hS : KL w (some base) g L) (hl : L.length ≤ 49) :
    Calls Tryd.prog 53 #[.slice (some base) L.length cap] w fun e w' => ∃ v M, e = .returned v ∧ KSl w' v M ∧ OrdP M ∧ (∀ x, x ∈ M ↔ x ∈ L) ∧ Go.RowKit.Below w.heap.size w w' := by
  have HC := Lib.hid (sorted_any base g cap L w hS hl)
  clear hS
  unfold fv at *
  go_enter Tryd.func53, Tryd.ntmps53
  go_wp2_with (go_at_call 76; (with_reducible refine HC.out.mono ?_); rintro e w1 ⟨v, M, rfl, h1, h2, h3, h4⟩; have H1 := Lib.hid h1; have H2 := Lib.hid h2; have H3 := Lib.hid h3; have H4 := Lib.hid h4; clear h1 h2 h3 h4)
  go_ret
  exact ⟨v, M, rfl, H1.out, H2.out, H3.out, H4.out⟩
end Go.Proofs.YtmmoccceafcfkaaDoor
