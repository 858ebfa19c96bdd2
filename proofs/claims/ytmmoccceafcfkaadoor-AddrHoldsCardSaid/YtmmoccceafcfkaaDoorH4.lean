/- The walk of AddrHolds. -/
import Derived.Test.YtmmoccceafcfkaaDoorH3
namespace Go.Proofs.YtmmoccceafcfkaaDoor
open Go.RowKit Go.Shelf

attribute [local go_sem] Oper.semAt_some

theorem begins_lit (s : ByteArray) (w : World) (n : Nat) (r : Bool) (hs : s.size ≤ 1000) (h : beginsB (s.data.toList.take n) = r) :
    Calls Tryd.prog 51 #[.string (s.extract 0 n)] w fun e w' => e = .returned (.bool r) ∧ Below w.heap.size w w' := by
  have e : (s.extract 0 n).data.toList = s.data.toList.take n := by rw [Lib.extract_data]; simp
  have := begins_any (s.extract 0 n) w (by simp; omega)
  rw [e, h] at this
  exact this

theorem ret_two_defers {D : Nat} {br : Nat} {w V : World} {tmps : Array Value} (hr : OneB V br (.bool true) 4) (hB : Below w.heap.size w V) (hK : V.heap[D]? = some (.deferred (some []))) (hD : w.heap.size ≤ D)
    (ht : tmps[4]? = some (.pointer (some ⟨br, 0, none⟩))) :
    bodyPostM Fence.wide 3 Tryd.prog Tryd.f11 (fun e w' => e = Ending.returned (Value.bool true) ∧ Below w.heap.size w w') Exit.ret { tmps := tmps, defers := [{ target := .collected D, args := #[] }] } V := by
  have hne : br ≠ D := by
    intro e
    rw [← e] at hK
    rw [show V.heap[br]? = _ from hr] at hK
    cases hK
  have o6 : OneB (V.putObj D (.deferred none)) br (.bool true) 4 := (World.putObj_heap_other hne).trans hr
  have oB3 := hB.trans (belowK_b (w := w) (Nat.le_refl _) V D _ (.deferred none) hD hK rfl rfl)
  refine ⟨by simp, .inl ⟨_, _, rfl, run_takeDeferred hK, ?_⟩⟩
  generalize V.putObj D (.deferred none) = V5 at *
  have q0 := o6.c
  refine ⟨.bool true, ?_, rfl, oB3⟩
  simp [results, Tryd.results11, go_sem, ht, q0]

set_option maxRecDepth 1000000 in
set_option maxHeartbeats 4000000 in
theorem AddrHolds_walk (l : List Int) (base : Option Addr) (b off cap : Nat) (s : ByteArray) (w : World) (hl : l.length ≤ 12) (hs : s.size ≤ 20) (hA : ArgU w base b off l) (hbw : l ≠ [] → b < w.heap.size) (ht : Pow w) (hm : MLen w) :
    Calls Tryd.prog 11 #[.slice base l.length cap, .string s] w fun e w' => e = .returned (.bool true) ∧ Below w.heap.size w w' := by
  have HT := Lib.hid ht
  have HM := Lib.hid hm
  have HA := Lib.hid hA
  clear ht hm hA
  have hnf : ∀ (b : Nat) (W : World), (binOp .eql 71 (.func (.func 72) #[] #[.pointer (some ⟨b, 0, none⟩)]) .nilFunc).run Tryd.prog W = .ok (.bool false) W := fun _ _ => by kernel_rfl
  have t1 : decide (12 < l.length) = false := by simp; omega
  have t1' : decide ((12 : Int) < (l.length : Int)) = false := by simp; omega
  have t2 : decide (20 < s.size) = false := by simp; omega
  have t2' : decide ((20 : Int) < (s.size : Int)) = false := by simp; omega
  have hjl := joinS_len l HA.out.bd
  obtain ⟨T, hT⟩ : ∃ T : ByteArray, (⟨(joinS l).toArray⟩ : ByteArray) = T := ⟨_, rfl⟩
  have hTd : T.data.toList = joinS l := by rw [← hT]
  have hTs : T.size = (joinS l).length := by rw [← hT]; rfl
  have hej := each_join T.data.toList l (T.data.toList.length + 1) 0 (Nat.zero_le _) (by omega) (by rw [List.drop_zero]; exact hTd) HA.out.bd
  have HEJ := Lib.hid (show (eachS T.data.toList).map (·.2) = l from hej.1)
  have HEP := Lib.hid (show ∀ p ∈ eachS T.data.toList, p.1 ≤ T.size from fun p hp => by have := hej.2 p hp; simpa using this)
  have HTx := Lib.hid hT
  have hT0 : l = [] → T = ⟨#[]⟩ := fun e => by rw [← hT, e]; rfl
  have HT0 := Lib.hid hT0
  have hT20 : T.size ≤ 1000 := by omega
  clear hej hTd hTs hT hjl hT0
  obtain ⟨b', hbb, hb'⟩ : ∃ b', (l ≠ [] → b' = b) ∧ b' < w.heap.size := by
    by_cases hLn : l = []
    · exact ⟨0, fun h => absurd hLn h, by have := HM.out.lt; omega⟩
    · exact ⟨b, fun _ => rfl, hbw hLn⟩
  have hA2 : ArgU w base b' off l := ⟨fun i z hz => by
    have hne : l ≠ [] := fun e => by rw [e] at hz; simp at hz
    rw [hbb hne]; exact HA.out.cells i z hz, HA.out.bd⟩
  have HA2 := Lib.hid hA2
  clear hA2 HA hbb hbw
  refine (callsIn_wide (n := 3)).1 ?_
  refine callsIn_of_wp_marks Tryd.func11 rfl trivial ?_ rfl
  simp only [Tryd.ntmps11, List.size_toArray, List.length_cons, List.length_nil, Nat.reduceAdd, Nat.reduceSub, Array.replicate_succ, Array.replicate_zero, List.push_toArray, List.append_toArray, List.nil_append, List.cons_append]
  refine wpIn_wide.2 ?_
  go_wp2_with fail
  have B0 : Below w.heap.size w ((w.alloc (Obj.cells #[Value.slice base l.length cap] 83)).alloc (Obj.cells #[Value.bool false] 4)) := ((Below.refl _ _).alloc (Nat.le_refl _) _).alloc (by simp) _
  have b2 : OneB ((w.alloc (Obj.cells #[Value.slice base l.length cap] 83)).alloc (Obj.cells #[Value.bool false] 4)) w.heap.size (.slice base l.length cap) 83 := (OneB.new w _ _).alloc _
  have b4 : OneB ((w.alloc (Obj.cells #[Value.slice base l.length cap] 83)).alloc (Obj.cells #[Value.bool false] 4)) (w.heap.size + 1) (.bool false) 4 := by
    have := OneB.new (w.alloc (Obj.cells #[Value.slice base l.length cap] 83)) (.bool false) 4
    simpa using this
  have hz0 : ((w.alloc (Obj.cells #[Value.slice base l.length cap] 83)).alloc (Obj.cells #[Value.bool false] 4)).heap.size = w.heap.size + 1 + 1 := by simp
  refine (Join_any l base b' off cap _ (by omega) (HA2.out.below B0) (tabBelow HT.out B0)).mono ?_
  rw [HTx.out]
  rintro e w1 ⟨rfl, hb1⟩
  replace B0 := bthen B0 hb1
  replace b2 := b2.below hb1
  replace b4 := b4.below hb1
  have hsz1 := hb1.size
  rw [hz0] at hsz1
  clear hb1 hz0
  go_wp2_with fail
  refine (Each_any T _).mono ?_
  rintro e w2 ⟨rfl, rfl⟩
  go_wp2_with fail
  have bX : Below w1.heap.size w1 (((w1.alloc (Obj.cells #[Value.string T] 9)).alloc (Obj.cells #[Value.string T] 9)).alloc (Obj.cells #[Value.int IntKind.i64 0] 3)) := (((Below.refl _ _).alloc (Nat.le_refl _) _).alloc (by simp) _).alloc (by simp; omega) _
  have hszW : (((w1.alloc (Obj.cells #[Value.string T] 9)).alloc (Obj.cells #[Value.string T] 9)).alloc (Obj.cells #[Value.int IntKind.i64 0] 3)).heap.size = w1.heap.size + 1 + 1 + 1 := by simp
  replace b2 := b2.below bX
  replace b4 := b4.below bX
  replace B0 := bthen B0 bX
  have b5 : OneB (((w1.alloc (Obj.cells #[Value.string T] 9)).alloc (Obj.cells #[Value.string T] 9)).alloc (Obj.cells #[Value.int IntKind.i64 0] 3)) w1.heap.size (.string T) 9 := ((OneB.new w1 _ _).alloc _).alloc _
  have b6 : (((w1.alloc (Obj.cells #[Value.string T] 9)).alloc (Obj.cells #[Value.string T] 9)).alloc (Obj.cells #[Value.int IntKind.i64 0] 3)).heap[w1.heap.size + 1]? = some (.cells #[.string T] 9) := by
    have := (OneB.new (w1.alloc (Obj.cells #[Value.string T] 9)) (.string T) 9).alloc (Obj.cells #[Value.int IntKind.i64 0] 3)
    simp only [World.size_alloc] at this
    exact this
  have b7 : OneB (((w1.alloc (Obj.cells #[Value.string T] 9)).alloc (Obj.cells #[Value.string T] 9)).alloc (Obj.cells #[Value.int IntKind.i64 0] 3)) (w1.heap.size + 1 + 1) (.int .i64 0) 3 := by
    have := OneB.new ((w1.alloc (Obj.cells #[Value.string T] 9)).alloc (Obj.cells #[Value.string T] 9)) (.int .i64 0) 3
    simpa using this
  generalize (((w1.alloc (Obj.cells #[Value.string T] 9)).alloc (Obj.cells #[Value.string T] 9)).alloc (Obj.cells #[Value.int IntKind.i64 0] 3)) = W0 at *
  refine rf11_all T (by omega) l HEJ.out HEP.out w.heap.size (w.heap.size + 1) w1.heap.size (w1.heap.size + 1 + 1) (w1.heap.size + 1) b' off cap base []
    _ _ _ _ _ _ _ _ _ _ _ _ _ _ _ _ _ _ _ _ _ _ _ _ _ _ _ _ _ _ _ _ _ _ _ _ _ _ _ _ _ _ _ _ _ _ _ _ _ _ _ _ _ _ _ _ _ _ _ _ _ _ _ _ _ _ _ _ _ _ _ _ _ _ _ _ _ _ _ _ _ _ _ _ _ _ _ _ _ _ _ _ _ _ _ _ _ _ _ _ _ _ _ _ _ _ _ W0 _ (by omega)
    (by omega) (by omega) (by omega) (by omega) (by omega) (by have := HM.out.lt; omega) b2 b4 b5 b7 b6 (HM.out.below B0) (HA2.out.below B0) ?_
  rintro D W hD hn hg hK
  have x0 := hn.c
  have x2 := (b2.grown hg (by omega)).c
  have x5 := (b5.grown hg (by omega)).c
  have o4 := b4.grown hg (by omega)
  have oB := B0.grown hg (by have := B0.size; omega) (fun k e => by cases e; omega)
  have oK := hK
  clear hn hg hK b2 b4 b5 b6 b7 bX
  have HSz := Lib.hid hszW
  have u1 : (l.length == 0) = false ∨ l = [] := by
    cases l with
    | nil => exact .inr rfl
    | cons a r => exact .inl (by simp)
  obtain ⟨pa, pn, pe, hp⟩ : ∃ a n e, parseS s.data.toList = (a, n, e) := ⟨_, _, _, rfl⟩
  have HP := Lib.hid hp
  clear hp
  have hcase : ((l.length : Int) == 0) = false ∨ (l = [] ∧ T = ⟨#[]⟩) := by
    by_cases hl0 : l = []
    · exact .inr ⟨hl0, HT0.out hl0⟩
    · refine .inl ?_
      rw [beq_eq_false_iff_ne]
      intro h
      exact hl0 (List.eq_nil_of_length_eq_zero (by omega))
  clear u1
  rcases hcase with u2 | ⟨rfl, rfl⟩
  all_goals
    go_wp2_with fail
    refine (Parse_lit s _ pa pn pe (by omega) HP.out).mono ?_
    rintro e V1 ⟨rfl, hb9⟩
    replace o4 := o4.below hb9
    replace oB := bthen oB hb9
    replace oK := (hb9.block D (Array.getElem?_eq_some_iff.1 oK).1).trans oK
    clear hb9
    clear x0 x2 x5
    by_cases he : pe = 0
    · obtain ⟨a', ha'⟩ := parse_right s.data.toList (by rw [HP.out]; exact he)
      rw [HP.out] at ha'
      have hpn : pn = (s.size : Int) := by
        have := congrArg (fun x => x.2.1) ha'
        simpa using this
      have t3 : (pe == 0) = true := by simp [he]
      have t4 : (pn == (s.size : Int)) = true := by simp [hpn]
      clear ha' he hpn
      go_wp2_with (go_at_call 41; refine (num1_any _ _).mono ?_; rintro e w' ⟨rfl, rfl⟩)
      refine (works1 _ (tabBelow HT.out oB)).mono ?_
      rintro e V2 ⟨rfl, hb9⟩
      replace o4 := o4.below hb9
      replace oB := bthen oB hb9
      replace oK := (hb9.block D (Array.getElem?_eq_some_iff.1 oK).1).trans oK
      clear hb9
      have k4 := o4.c
      have k4f := o4.f
      go_wp2_with fail
      have o5 := o4.set (.bool true)
      have oB2 := oB.setCell (p := ⟨w.heap.size + 1, 0, none⟩) (by simp) (.bool true)
      have oK2 := (KeepsOthers.setCell _ ⟨w.heap.size + 1, 0, none⟩ (.bool true)).same D _ oK rfl
      exact ret_two_defers o5 oB2 oK2 (by omega) rfl
    · obtain ⟨n, hn1, hn2, hn3, hn4⟩ := parse_wrong s.data.toList (by rw [HP.out]; exact he)
      rw [HP.out] at hn1
      simp only [Prod.mk.injEq] at hn1
      obtain ⟨rfl, rfl, rfl⟩ := hn1
      have hn2' : n ≤ s.size := by simpa using hn2
      have H3 := Lib.hid hn3
      have H4 := Lib.hid hn4
      have t4 : decide ((n : Int) < 0) = false := by simp
      have t5 : decide (s.size < n) = false := by simp; omega
      have i0 : (0 : Int) ≤ (n : Int) := by omega
      have i1 : (n : Int) ≤ (s.size : Int) := by omega
      clear he hn2 hn3 hn4
      go_wp2_with (go_at_call 41; refine (num1_any _ _).mono ?_; rintro e w' ⟨rfl, rfl⟩)
      refine (begins_lit s _ n true (by omega) H3.out).mono ?_
      rintro e V2 ⟨rfl, hb9⟩
      replace o4 := o4.below hb9
      replace oB := bthen oB hb9
      replace oK := (hb9.block D (Array.getElem?_eq_some_iff.1 oK).1).trans oK
      clear hb9
      by_cases hlt : n < s.size
      · have t6 : decide (n < s.size) = true := by simp [hlt]
        have i2 : (n : Int) + 1 ≤ (s.size : Int) := by omega
        have hf := H4.out (by simpa using hlt)
        have H5 := Lib.hid hf
        clear hf
        go_wp2_with fail
        refine (begins_lit s _ (n + 1) false (by omega) H5.out).mono ?_
        rintro e V3 ⟨rfl, hb9⟩
        replace o4 := o4.below hb9
        replace oB := bthen oB hb9
        replace oK := (hb9.block D (Array.getElem?_eq_some_iff.1 oK).1).trans oK
        clear hb9
        go_wp2_with fail
        refine (works1 _ (tabBelow HT.out oB)).mono ?_
        rintro e V4 ⟨rfl, hb9⟩
        replace o4 := o4.below hb9
        replace oB := bthen oB hb9
        replace oK := (hb9.block D (Array.getElem?_eq_some_iff.1 oK).1).trans oK
        clear hb9
        have k4 := o4.c
        have k4f := o4.f
        go_wp2_with fail
        have o5 := o4.set (.bool true)
        have oB2 := oB.setCell (p := ⟨w.heap.size + 1, 0, none⟩) (by simp) (.bool true)
        have oK2 := (KeepsOthers.setCell _ ⟨w.heap.size + 1, 0, none⟩ (.bool true)).same D _ oK rfl
        exact ret_two_defers o5 oB2 oK2 (by omega) rfl
      · have t6 : decide (n < s.size) = false := by simp; omega
        go_wp2_with fail
        refine (works1 _ (tabBelow HT.out oB)).mono ?_
        rintro e V4 ⟨rfl, hb9⟩
        replace o4 := o4.below hb9
        replace oB := bthen oB hb9
        replace oK := (hb9.block D (Array.getElem?_eq_some_iff.1 oK).1).trans oK
        clear hb9
        have k4 := o4.c
        have k4f := o4.f
        go_wp2_with fail
        have o5 := o4.set (.bool true)
        have oB2 := oB.setCell (p := ⟨w.heap.size + 1, 0, none⟩) (by simp) (.bool true)
        have oK2 := (KeepsOthers.setCell _ ⟨w.heap.size + 1, 0, none⟩ (.bool true)).same D _ oK rfl
        exact ret_two_defers o5 oB2 oK2 (by omega) rfl

set_option maxRecDepth 1000000 in
set_option maxHeartbeats 4000000 in
theorem AddrHolds_long (n : Nat) (base : Option Addr) (cap : Nat) (s : ByteArray) (w : World) (hl : 12 < n ∨ 20 < s.size) (hn : n ≤ 9223372036854775807) (hs : s.size ≤ 9223372036854775807) (ht : Pow w) :
    Calls Tryd.prog 11 #[.slice base n cap, .string s] w fun e w' => e = .returned (.bool true) ∧ Below w.heap.size w w' := by
  have HT := Lib.hid ht
  clear ht
  have hc : (decide (12 < n) = true ∧ decide ((12 : Int) < (n : Int)) = true) ∨ (decide (12 < n) = false ∧ decide ((12 : Int) < (n : Int)) = false ∧ decide (20 < s.size) = true ∧ decide ((20 : Int) < (s.size : Int)) = true) := by
    by_cases h : 12 < n
    · exact .inl ⟨by simp [h], by simp; omega⟩
    · exact .inr ⟨by simp [h], by simp; omega, by simp; omega, by simp; omega⟩
  clear hl
  rcases hc with ⟨t1, t1'⟩ | ⟨t1, t1', t2, t2'⟩
  all_goals
    go_enter Tryd.func11, Tryd.ntmps11
    go_wp2_with fail
    have B0 : Below w.heap.size w ((w.alloc (Obj.cells #[Value.slice base n cap] 83)).alloc (Obj.cells #[Value.bool false] 4)) := ((Below.refl _ _).alloc (Nat.le_refl _) _).alloc (by simp) _
    have b4 : OneB ((w.alloc (Obj.cells #[Value.slice base n cap] 83)).alloc (Obj.cells #[Value.bool false] 4)) (w.heap.size + 1) (.bool false) 4 := by
      have := OneB.new (w.alloc (Obj.cells #[Value.slice base n cap] 83)) (.bool false) 4
      simpa using this
    refine (works1 _ (tabBelow HT.out B0)).mono ?_
    rintro e w1 ⟨rfl, hb1⟩
    replace B0 := bthen B0 hb1
    replace b4 := b4.below hb1
    clear hb1
    have y0 := b4.c
    have y1 := b4.f
    go_wp2_with fail
    have o5 := b4.set (.bool true)
    have oB2 := B0.setCell (p := ⟨w.heap.size + 1, 0, none⟩) (by simp) (.bool true)
    generalize w1.setCell ⟨w.heap.size + 1, 0, none⟩ (.bool true) = V4 at *
    have q0 := o5.c
    exact bodyPost_ret (v := .bool true) (by simp [results, Tryd.results11, go_sem, q0]) rfl ⟨rfl, oB2⟩
end Go.Proofs.YtmmoccceafcfkaaDoor
