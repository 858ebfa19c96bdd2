/- Same: by the program, by the document. -/
import Derived.Test.YtahkhecfnimdbaaDoorW5
import Derived.Deep.LoopGhost
namespace Go.Proofs.YtahkhecfnimdbaaDoor
open Go.RowKit Go.Maps

def eqR (x r : Rec) : Bool := x.face == r.face && x.addr == r.addr && x.last == r.last && x.good == r.good && x.bad == r.bad
theorem eqR_iff {x r : Rec} : eqR x r = true ↔ x = r := by
  obtain ⟨a, b, c, d, e⟩ := x
  obtain ⟨a', b', c', d', e'⟩ := r
  simp [eqR, and_assoc]
instance : DecidableEq Rec := fun x y => decidable_of_iff (eqR x y = true) eqR_iff
theorem ord_sub {T1 T2 : List Rec} (h1 : OrdT T1) (h2 : OrdT T2) (hs : ∀ r ∈ T1, r ∈ T2) : T1.Sublist T2 := by
  induction T2 generalizing T1 with
  | nil =>
    cases T1 with
    | nil => exact List.Sublist.refl _
    | cons a A => exact absurd (hs a (by simp)) (by simp)
  | cons b B ih =>
    cases T1 with
    | nil => exact List.nil_sublist _
    | cons a A =>
      have h1' := List.pairwise_cons.1 h1
      have h2' := List.pairwise_cons.1 h2
      rcases List.mem_cons.1 (hs a (by simp)) with e | ha
      · subst e
        refine (ih h1'.2 h2'.2 (fun r hr => ?_)).cons_cons a
        rcases List.mem_cons.1 (hs r (List.mem_cons_of_mem _ hr)) with e | hr2
        · subst e
          have := h1'.1 r hr
          unfold LtR at this
          omega
        · exact hr2
      · refine (ih h1 h2'.2 (fun r hr => ?_)).cons b
        rcases List.mem_cons.1 (hs r hr) with e | hr2
        · subst e
          have hba := h2'.1 a ha
          rcases List.mem_cons.1 hr with e | hr3
          · subst e
            unfold LtR at hba
            omega
          · have := h1'.1 r hr3
            unfold LtR at this hba
            omega
        · exact hr2
theorem ord_eq {T1 T2 : List Rec} (h1 : OrdT T1) (h2 : OrdT T2) (hl : T1.length = T2.length) (hs : ∀ r ∈ T1, r ∈ T2) : T1 = T2 :=
  (ord_sub h1 h2 hs).eq_of_length hl
def sameSt (s1 s2 : St) : Bool := decide (s1.now = s2.now) && (decide (s1.lost = s2.lost) && decide (s1.T = s2.T))
theorem sameSt_comm (s1 s2 : St) : sameSt s1 s2 = sameSt s2 s1 := by
  unfold sameSt
  rw [Bool.eq_iff_iff]
  simp only [Bool.and_eq_true, decide_eq_true_eq]
  constructor <;> (rintro ⟨a, b, c⟩; exact ⟨a.symm, b.symm, c.symm⟩)
theorem klR_inj {r s : Rec} (hr : r.Wf) (hs : s.Wf) (e : klR r = klR s) : r.face = s.face ∧ r.addr = s.addr := kl_inj hr.key hs.key e

set_option maxHeartbeats 4000000 in
set_option maxRecDepth 100000 in
theorem Equal_any (p1 m1 p2 m2 : Nat) (T1 T2 : List Rec) (now1 lost1 now2 lost2 : Int) (w : World) (h1 : NS w p1 m1 T1 now1 lost1) (h2 : NS w p2 m2 T2 now2 lost2) (hO1 : OrdT T1) (hO2 : OrdT T2) :
    Calls Tryd.prog 40 #[.map (some m1), .map (some m2)] w fun e w' => e = .returned (.bool (decide (T1 = T2))) ∧ Below w.heap.size w w' := by
  have l1 := h1.len
  have l2 := h2.len
  obtain ⟨D1, ho1, ht1⟩ := h1.map
  have hw1 := h1.wf
  have hm2 := h2.mlt
  have HO := Lib.hid ho1
  have HT := Lib.hid ht1
  have HW1 := Lib.hid hw1
  have H2 := Lib.hid h2
  clear h1 h2 ht1 hw1
  by_cases hl : T1.length = T2.length
  · have t1 : ((T1.length : Int) != (T2.length : Int)) = false := by simp [hl]
    have HLe := Lib.hid hl
    clear hl
    go_enter Tryd.func40, Tryd.ntmps40
    go_wp2_with (first
      | (at_range; refine wpList_range_own _ rfl _ 62 rfl 66 71 keyed66 Tryd.underlying62 recR m1 T1.length _ rfl ho1 ?_; intro w0 hrg0 hg0 hs0)
      | fail)
    go_frame
    have hb0 : Below w.heap.size w w0 := ⟨hg0.os, hg0.tape, hg0.output, hg0.size, fun k hk => hg0.block k hk (fun e => by cases e)⟩
    go_loopw [16] (fun _ wr => ∃ (left : Lit → Bool) (cnt : Nat), wr.ranges Tryd.prog 66 recR m1 w.heap.size T1.length D1 left cnt ∧ Below w.heap.size w wr ∧ ∀ r ∈ T1, left (klR r) = false → r ∈ T2)
      (fun _ wr => wr.rangeLeft m1 w.heap.size)
    case atStart => exact ⟨_, _, hrg0, hb0, fun r hr hf => by rw [HT.out.has_mem hr] at hf; cases hf⟩
    case round =>
      obtain ⟨left, cnt, hrg, hbl, hall⟩ := hrel
      clear hrg0 hg0 hs0 hb0
      go_wp2_with (first
        | (at_next; refine wpList_next_ranges _ rfl _ rfl 66 keyed66 recR (fun x : Int × Int => Value.agg #[.int .i64 x.1, .int .u32 x.2]) (fun r : Rec => Value.agg #[.int .i64 r.face, .int .u32 r.addr, .int .i64 r.last, .int .i64 r.good, .int .i64 r.bad]) key66_inv rec71_inv m1 w.heap.size T1.length _ _ _ rfl hrg ?_ ?_)
        | fail)
      · intro _ hl0
        have HE := Lib.hid (show decide (T1 = T2) = true from decide_eq_true (ord_eq hO1 hO2 HLe.out (fun r hr => hall r hr (hl0 _))))
        clear hall hrg
        go_wp2_with fail
        go_ret
        exact ⟨ret_bool HE.out.symm, hbl⟩
      · intro f a r kl yd yp w1 cnt1 hkey hlx hv hat hrg1 hlt hg1 hs1 hen
        have hhas : Maps.has D1 kl = true := has_true_of_atKey hat
        obtain ⟨q, hq, rfl⟩ := HT.out.of_has hhas
        obtain ⟨e1, e2⟩ : f = q.face ∧ a = q.addr := by
          have := keyOf_inv (x := (f, a)) (HW1.out q hq) hkey
          unfold keyP at this
          simpa using this
        obtain rfl : r = q := by
          have hy : yd = recD q := (hat (recD q)).symm.trans (HT.out.at hq _)
          rw [hy] at hv
          have := recR_inv hv
          unfold recV at this
          obtain ⟨r0, r1, r2, r3, r4⟩ := r
          obtain ⟨q0, q1, q2, q3, q4⟩ := q
          simpa using this
        subst e1 e2
        have hb1 : Below w.heap.size w w1 := hbl.grown hg1 hbl.size (fun k e => by cases e; exact Nat.le_refl _)
        have hrgA := (hrg1.kept (World.grownBy_alloc w1 (kObj r.face r.addr) none) (by simp) (by simp)).kept (World.grownBy_alloc _ (rObj r) none) (by simp) (by simp)
        have hbA := (hb1.alloc hb1.size (kObj r.face r.addr)).alloc (by simp; have := hb1.size; omega) (rObj r)
        have hlk := (H2.out.below hbA).look r.face r.addr (HW1.out r hq).key
        have hA2 := H2.out.apart
        have hstep : r ∈ T2 → ∀ r' ∈ T1, (left (klR r') && !(klR r').sameKey (klR r)) = false → r' ∈ T2 := by
          intro hr r' hr' hf
          rw [Bool.and_eq_false_iff] at hf
          rcases hf with hf | hf
          · exact hall r' hr' hf
          · have hk := WideAt.sameKey_eq (by simpa using hf)
            obtain ⟨f1, f2⟩ := klR_inj (HW1.out r' hr') (HW1.out r hq) hk
            rw [hO1.apart.one hr' hq f1 f2]
            exact hr
        have HStep := Lib.hid hstep
        have HrgA := Lib.hid hrgA
        have HBA := Lib.hid hbA
        have HRG := Lib.hid hrg
        have HLt := Lib.hid hlt
        have HQ := Lib.hid hq
        have HB1 := Lib.hid hb1
        clear hstep hrgA hbA hrg hlt hq hat hv hkey hhas hall hbl hb1 hg1 hrg1 hs1 hlx
        simp only [recV, keyV] at hlk
        generalize hx : getR T2 r.face r.addr = x at *
        have HX := Lib.hid hx
        clear hx
        cases hh : hasR T2 r.face r.addr with
        | false =>
          rw [hh] at hlk
          have hnr : r ∉ T2 := fun hr => by rw [hasR_iff.2 ⟨r, hr, rfl, rfl⟩] at hh; cases hh
          have HE := Lib.hid (show decide (T1 = T2) = false from decide_eq_false (fun e => hnr (e ▸ HQ.out)))
          clear hnr hh
          go_wp2_with fail
          go_ret
          exact ⟨ret_bool HE.out.symm, HBA.out.alloc HBA.out.size _⟩
        | true =>
          rw [hh] at hlk
          by_cases hxr : x = r
          · subst hxr
            have hr2 : x ∈ T2 := by
              have := (getR_mem hh).1
              rw [HX.out] at this
              exact this
            have HR2 := Lib.hid hr2
            clear hr2 hh
            go_wp2_with fail
            go_roundw
            case rel => exact ⟨_, cnt1, HrgA.out.kept (World.grownBy_alloc _ _ none) (by simp) (by simp), HBA.out.alloc HBA.out.size _, HStep.out HR2.out⟩
            case measure => rw [(HrgA.out.kept (World.grownBy_alloc _ _ none) (by simp) (by simp)).left_eq, HRG.out.left_eq]; exact HLt.out
          · have hnr : r ∉ T2 := fun hr => hxr (by rw [← HX.out]; exact getR_of hA2 hr)
            have HE := Lib.hid (show decide (T1 = T2) = false from decide_eq_false (fun e => hnr (e ▸ HQ.out)))
            clear hnr hh
            have HXR := Lib.hid hxr
            clear hxr
            go_wp2_with fail
            all_goals first
              | (go_ret; exact ⟨ret_bool HE.out.symm, ((HB1.out.alloc HB1.out.size _).alloc (by simp; have := HB1.out.size; omega) _).alloc (by simp; have := HB1.out.size; omega) _⟩)
              | (exfalso; apply HXR.out; cases x; cases r; simp_all)
  · have t1 : ((T1.length : Int) != (T2.length : Int)) = true := by simp; omega
    have HE := Lib.hid (show decide (T1 = T2) = false from decide_eq_false (fun e => hl (by rw [e])))
    clear hl
    go_enter Tryd.func40, Tryd.ntmps40
    go_wp2_with fail
    go_ret
    exact ⟨ret_bool HE.out.symm, Below.refl _ _⟩
end Go.Proofs.YtahkhecfnimdbaaDoor
