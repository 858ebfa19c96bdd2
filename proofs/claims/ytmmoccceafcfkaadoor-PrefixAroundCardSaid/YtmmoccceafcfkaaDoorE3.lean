/- Contracts of the reference of layer 2: Stands, Order, Common. -/
import Derived.Test.YtmmoccceafcfkaaDoorE2
import Derived.Test.YtmmoccceafcfkaaDoorD2
namespace Go.Proofs.YtmmoccceafcfkaaDoor
open Go.RowKit

/-- two prefixes told apart, as the walk has it -/
theorem ordR_0 {pa pn qa qn : Int} (h : pa = qa ∧ pn = qn) : ordR pa pn qa qn = 0 := by unfold ordR; rw [if_pos h]

set_option maxHeartbeats 400000 in
theorem rOrder_any (pa pn qa qn : Int) (w : World) :
    Calls Tryd.prog 30 #[.agg #[.int .u32 pa, .int .i64 pn], .agg #[.int .u32 qa, .int .i64 qn]] w fun e w' => e = .returned (.int .i64 (ordR pa pn qa qn)) ∧ Below w.heap.size w w' := by
  have hB : ∀ o1 o2 : Obj, Below w.heap.size w ((w.alloc o1).alloc o2) := fun o1 o2 => ((Below.refl _ _).alloc (Nat.le_refl _) _).alloc (by simp) _
  have HB := Lib.hid hB
  clear hB
  by_cases e1 : pa = qa
  · subst e1
    by_cases e2 : pn = qn
    · subst e2
      go_enter Tryd.func30, Tryd.ntmps30
      go_wp2
      go_ret
      exact ⟨ret_int (by simp [ordR]), HB.out _ _⟩
    · have t1 : (pn == qn) = false := by simp [e2]
      by_cases e3 : pn < qn
      · have t2 : decide (pn < qn) = true := by simp [e3]
        have HF := Lib.hid (show ordR pa pn pa qn = -1 by unfold ordR; rw [if_neg (by omega), if_pos (by omega)])
        clear e2
        go_enter Tryd.func30, Tryd.ntmps30
        go_wp2
        go_ret
        exact ⟨ret_int HF.out.symm, HB.out _ _⟩
      · have t2 : decide (pn < qn) = false := by simp; omega
        have HF := Lib.hid (show ordR pa pn pa qn = 1 by unfold ordR; rw [if_neg (by omega), if_neg (by omega)])
        clear e2
        go_enter Tryd.func30, Tryd.ntmps30
        go_wp2
        go_ret
        exact ⟨ret_int HF.out.symm, HB.out _ _⟩
  · have t1 : (pa == qa) = false := by simp [e1]
    by_cases e3 : pa < qa
    · have t2 : decide (pa < qa) = true := by simp [e3]
      have HF := Lib.hid (show ordR pa pn qa qn = -1 by unfold ordR; rw [if_neg (by omega), if_pos (by omega)])
      clear e1
      go_enter Tryd.func30, Tryd.ntmps30
      go_wp2
      go_ret
      exact ⟨ret_int HF.out.symm, HB.out _ _⟩
    · have t2 : decide (pa < qa) = false := by simp; omega
      have HF := Lib.hid (show ordR pa pn qa qn = 1 by unfold ordR; rw [if_neg (by omega), if_neg (by omega)])
      clear e1
      go_enter Tryd.func30, Tryd.ntmps30
      go_wp2
      go_ret
      exact ⟨ret_int HF.out.symm, HB.out _ _⟩

theorem hasB_of {pa pn a : Int} (h : rightB pa pn = true) : hasB pa pn a = (andM a pn == pa) := by unfold hasB; rw [h]; rfl

theorem rHas_lit (pa pn a : Int) (w : World) (r : Bool) (p0 : 0 ≤ pa) (p1 : pa < 4294967296) (a0 : 0 ≤ a) (a1 : a < 4294967296) (h : hasB pa pn a = r) :
    Calls Tryd.prog 21 #[.agg #[.int .u32 pa, .int .i64 pn], .int .u32 a] w fun e w' => e = .returned (.bool r) ∧ Below w.heap.size w w' := by
  subst h; exact rHas_any pa pn a w p0 p1 a0 a1

/-- the facts that the walk of Stands asks, by cases -/
theorem standI_1 {pa pn qa qn : Int} (h : pa = qa ∧ pn = qn) : standI pa pn qa qn = 1 := by unfold standI; rw [if_pos h]

set_option maxHeartbeats 1000000 in
theorem rStands_any (pa pn qa qn : Int) (w : World) (p0 : 0 ≤ pa) (p1 : pa < 4294967296) (q0 : 0 ≤ qa) (q1 : qa < 4294967296) (hp : rightB pa pn = true) (hq : rightB qa qn = true) :
    Calls Tryd.prog 31 #[.agg #[.int .u32 pa, .int .i64 pn], .agg #[.int .u32 qa, .int .i64 qn]] w fun e w' => e = .returned (.int .i64 (standI pa pn qa qn)) ∧ Below w.heap.size w w' := by
  have hB : ∀ o1 o2 : Obj, Below w.heap.size w ((w.alloc o1).alloc o2) := fun o1 o2 => ((Below.refl _ _).alloc (Nat.le_refl _) _).alloc (by simp) _
  have HB := Lib.hid hB
  clear hB
  by_cases hs : pa = qa ∧ pn = qn
  · obtain ⟨rfl, rfl⟩ := hs
    clear hp hq
    go_enter Tryd.func31, Tryd.ntmps31
    go_wp2
    go_ret
    exact ⟨ret_int (by rw [standI_1 ⟨rfl, rfl⟩]), HB.out _ _⟩
  · have HS := Lib.hid hs
    have Hh1 := Lib.hid (hasB_of (a := pa) hq)
    have Hh2 := Lib.hid (hasB_of (a := qa) hp)
    have Hsq := Lib.hid (andM_self qa qn q0 q1 hq)
    clear hs hp hq
    by_cases c1 : qn ≤ pn
    · have t1 : decide (qn ≤ pn) = true := by simp [c1]
      cases hh : hasB qa qn pa with
      | true =>
        have HF := Lib.hid (show standI pa pn qa qn = 2 by
          unfold standI
          have h2 := Hh1.out
          rw [hh] at h2
          rw [if_neg HS.out, if_pos ⟨c1, by simpa using h2.symm⟩])
        have Hh := Lib.hid hh
        clear hh
        by_cases e1 : pa = qa
        · have t2 : (pn == qn) = false := by
            rw [beq_eq_false_iff_ne]; intro h; exact HS.out ⟨e1, h⟩
          subst e1
          go_enter Tryd.func31, Tryd.ntmps31
          go_wp2_with (go_at_call 21; refine (rHas_lit _ _ _ _ true q0 q1 p0 p1 Hh.out).mono ?_; rintro e w1 ⟨rfl, hb1⟩)
          go_ret
          exact ⟨ret_int HF.out.symm, bthen (HB.out _ _) hb1⟩
        · have t2 : (pa == qa) = false := by simp [e1]
          clear e1
          go_enter Tryd.func31, Tryd.ntmps31
          go_wp2_with (go_at_call 21; refine (rHas_lit _ _ _ _ true q0 q1 p0 p1 Hh.out).mono ?_; rintro e w1 ⟨rfl, hb1⟩)
          go_ret
          exact ⟨ret_int HF.out.symm, bthen (HB.out _ _) hb1⟩
      | false =>
        have h2 := Hh1.out
        rw [hh] at h2
        have h3 : ¬ andM pa qn = qa := by simpa using h2.symm
        have e1 : pa ≠ qa := fun h => h3 (by rw [h]; exact Hsq.out)
        have t2 : (pa == qa) = false := by simp [e1]
        have Hh := Lib.hid hh
        clear hh h2
        by_cases c2 : pn ≤ qn
        · have t3 : decide (pn ≤ qn) = true := by simp [c2]
          have e2 : pn = qn := by omega
          have h4 : ¬ andM qa pn = pa := by rw [e2, Hsq.out]; exact fun h => e1 h.symm
          have HF := Lib.hid (show standI pa pn qa qn = 4 by
            unfold standI
            rw [if_neg HS.out, if_neg (fun h => h3 h.2), if_neg (fun h => h4 h.2)])
          have Hg := Lib.hid (show hasB pa pn qa = false by rw [Hh2.out]; simpa using h4)
          clear e1 e2 h3 h4
          go_enter Tryd.func31, Tryd.ntmps31
          go_wp2_with fail
          refine (rHas_lit _ _ _ _ false q0 q1 p0 p1 Hh.out).mono ?_
          rintro e w1 ⟨rfl, hb1⟩
          have c0 := (hb1.cell (p := ⟨w.heap.size, 0, none⟩) (by simp; omega)).trans (show _ = some (.int .u32 pa) by simp [go_sem])
          have c1 := (hb1.cell (p := ⟨w.heap.size, 1, none⟩) (by simp; omega)).trans (show _ = some (.int .i64 pn) by simp [go_sem])
          have c2 := (hb1.cell (p := ⟨w.heap.size + 1, 0, none⟩) (by simp)).trans (show _ = some (.int .u32 qa) by simp [go_sem])
          have c3 := (hb1.cell (p := ⟨w.heap.size + 1, 1, none⟩) (by simp)).trans (show _ = some (.int .i64 qn) by simp [go_sem])
          go_wp2_with fail
          refine (rHas_lit _ _ _ _ false p0 p1 q0 q1 Hg.out).mono ?_
          rintro e w2 ⟨rfl, hb2⟩
          go_wp2_with fail
          go_ret
          exact ⟨ret_int HF.out.symm, bthen (bthen (HB.out _ _) hb1) hb2⟩
        · have t3 : decide (pn ≤ qn) = false := by simp; omega
          have HF := Lib.hid (show standI pa pn qa qn = 4 by
            unfold standI
            rw [if_neg HS.out, if_neg (fun h => h3 h.2), if_neg (fun h => c2 h.1)])
          clear e1 h3
          go_enter Tryd.func31, Tryd.ntmps31
          go_wp2_with fail
          refine (rHas_lit _ _ _ _ false q0 q1 p0 p1 Hh.out).mono ?_
          rintro e w1 ⟨rfl, hb1⟩
          have c0 := (hb1.cell (p := ⟨w.heap.size, 0, none⟩) (by simp; omega)).trans (show _ = some (.int .u32 pa) by simp [go_sem])
          have c1 := (hb1.cell (p := ⟨w.heap.size, 1, none⟩) (by simp; omega)).trans (show _ = some (.int .i64 pn) by simp [go_sem])
          have c2 := (hb1.cell (p := ⟨w.heap.size + 1, 0, none⟩) (by simp)).trans (show _ = some (.int .u32 qa) by simp [go_sem])
          have c3 := (hb1.cell (p := ⟨w.heap.size + 1, 1, none⟩) (by simp)).trans (show _ = some (.int .i64 qn) by simp [go_sem])
          go_wp2_with fail
          go_ret
          exact ⟨ret_int HF.out.symm, bthen (HB.out _ _) hb1⟩
    · have t1 : decide (qn ≤ pn) = false := by simp; omega
      have t3 : decide (pn ≤ qn) = true := by simp; omega
      have t4 : (pn == qn) = false := by rw [beq_eq_false_iff_ne]; omega
      have HF : Hid (standI pa pn qa qn = if hasB pa pn qa = true then 3 else 4) := Lib.hid (by
        unfold standI
        rw [if_neg HS.out, if_neg (fun h => c1 h.1)]
        by_cases h : andM qa pn = pa
        · rw [if_pos ⟨by omega, h⟩, if_pos (by rw [Hh2.out]; simpa using h)]
        · rw [if_neg (fun h' => h h'.2), if_neg (by rw [Hh2.out]; simpa using h)])
      generalize hh : hasB pa pn qa = r at HF
      have Hh := Lib.hid hh
      clear hh
      by_cases e1 : pa = qa
      all_goals
        first | subst e1 | (have t2 : (pa == qa) = false := by simp [e1])
        try clear e1
        cases r
        all_goals
          go_enter Tryd.func31, Tryd.ntmps31
          go_wp2_with (go_at_call 21; refine (rHas_lit _ _ _ _ _ p0 p1 q0 q1 Hh.out).mono ?_; rintro e w1 ⟨rfl, hb1⟩)
          go_ret
          exact ⟨ret_int HF.out.symm, bthen (HB.out _ _) hb1⟩

theorem PBox.drewN {W : World} {B m : Nat} {a n : Int} (h : PBox W B a n) : PBox (W.drewN m) B a n := by
  unfold PBox at *; simpa using h

/-- as far as the bits are the same -/
structure ComTo (pa pn qa qn : Int) (n : Nat) : Prop where
  hp : (n : Int) ≤ pn
  hq : (n : Int) ≤ qn
  same : ∀ i : Nat, i < n → bitB pa i = bitB qa i

set_option maxRecDepth 100000 in
set_option maxHeartbeats 1000000 in
theorem rCommon_any (pa pn qa qn : Int) (w : World) (p0 : 0 ≤ pa) (p1 : pa < 4294967296) (q0 : 0 ≤ qa) (q1 : qa < 4294967296) (lp : 0 ≤ pn) (lp2 : pn ≤ 32) (lq : 0 ≤ qn) :
    Calls Tryd.prog 32 #[.agg #[.int .u32 pa, .int .i64 pn], .agg #[.int .u32 qa, .int .i64 qn]] w fun e w' => (∃ n : Nat, ComTo pa pn qa qn n ∧ ((n : Int) = pn ∨ (n : Int) = qn ∨ bitB pa n ≠ bitB qa n) ∧ e = .returned (.agg #[.int .u32 (andM pa n), .int .i64 n])) ∧ Below w.heap.size w w' := by
  go_enter Tryd.func32, Tryd.ntmps32
  go_wp2
  generalize hW : (((w.alloc (Obj.cells #[Value.int IntKind.u32 pa, Value.int IntKind.i64 pn] 25)).alloc (Obj.cells #[Value.int IntKind.u32 qa, Value.int IntKind.i64 qn] 25)).alloc (Obj.cells #[Value.int IntKind.u32 0, Value.int IntKind.i64 0] 25)) = W
  have hBW : Below w.heap.size w W := by subst hW; exact (((Below.refl _ _).alloc (Nat.le_refl _) _).alloc (by simp) _).alloc (by simp; omega) _
  have hsz : W.heap.size = w.heap.size + 1 + 1 + 1 := by subst hW; simp
  have c0 : W.cell? ⟨w.heap.size, 0, none⟩ = some (.int .u32 pa) := by subst hW; simp [go_sem]
  have c1 : W.cell? ⟨w.heap.size, 1, none⟩ = some (.int .i64 pn) := by subst hW; simp [go_sem]
  have c2 : W.cell? ⟨w.heap.size + 1, 0, none⟩ = some (.int .u32 qa) := by subst hW; simp [go_sem]
  have c3 : W.cell? ⟨w.heap.size + 1, 1, none⟩ = some (.int .i64 qn) := by subst hW; simp [go_sem]
  have hbox : PBox W (w.heap.size + 1 + 1) 0 0 := by
    subst hW
    have := PBox.new ((w.alloc (Obj.cells #[Value.int IntKind.u32 pa, Value.int IntKind.i64 pn] 25)).alloc (Obj.cells #[Value.int IntKind.u32 qa, Value.int IntKind.i64 qn] 25)) 0 0
    simpa using this
  clear hW
  have HB := Lib.hid hBW
  have HX := Lib.hid hbox
  have HZ := Lib.hid hsz
  clear hBW hbox hsz
  generalize hB0 : w.heap.size = B0 at *
  have HB0 := Lib.hid hB0
  clear hB0
  go_loopw [5] (fun k wr => ∃ n m : Nat, ComTo pa pn qa qn n ∧ k = .int .i64 n ∧ wr = W.drewN m) (fun k _ => (pn - intOf k).toNat)
  case atStart => exact ⟨0, 0, ⟨by omega, by omega, fun i hi => by omega⟩, rfl, rfl⟩
  case round =>
    obtain ⟨n, m, hc, rfl, hwr⟩ := hrel
    have d0 : wr.cell? ⟨B0, 0, none⟩ = some (.int .u32 pa) := by rw [hwr]; simpa using c0
    have d1 : wr.cell? ⟨B0, 1, none⟩ = some (.int .i64 pn) := by rw [hwr]; simpa using c1
    have d2 : wr.cell? ⟨B0 + 1, 0, none⟩ = some (.int .u32 qa) := by rw [hwr]; simpa using c2
    have d3 : wr.cell? ⟨B0 + 1, 1, none⟩ = some (.int .i64 qn) := by rw [hwr]; simpa using c3
    have HW := Lib.hid hwr
    clear hwr c0 c1 c2 c3
    have n1 := hc.hp
    have n2 := hc.hq
    have HC := Lib.hid hc
    clear hc
    by_cases h1 : (n : Int) < pn ∧ (n : Int) < qn ∧ bitI pa n = bitI qa n
    · obtain ⟨h1, h2, h3⟩ := h1
      have t1 : decide ((n : Int) < pn) = true := by simp [h1]
      have t2 : decide ((n : Int) < qn) = true := by simp [h2]
      have t3 : (bitI pa n == bitI qa n) = true := by simp [h3]
      have HE := Lib.hid ((bitI_eq_iff pa qa n p0 q0 (by omega)).1 h3)
      clear h3
      go_wp2_with fail
      go_quiet ((go_at_call 23; first | exact rBit_q _ _ _ _ p0 p1 | exact rBit_q _ _ _ _ q0 q1))
      go_wp2_with fail
      go_roundw
      case rel => exact ⟨n + 1, _, ⟨by omega, by omega, fun i hi => by
        by_cases hin : i = n
        · rw [hin]; exact HE.out
        · exact HC.out.same i (by omega)⟩, by go_num, by rw [HW.out]; exact World.drewN_drewN _ _ _⟩
      case measure => simp [intOf]; omega
    · have HE : Hid ((n : Int) = pn ∨ (n : Int) = qn ∨ bitB pa n ≠ bitB qa n) := Lib.hid (by
        by_cases g1 : (n : Int) < pn
        · by_cases g2 : (n : Int) < qn
          · right; right
            intro h
            exact h1 ⟨g1, g2, (bitI_eq_iff pa qa n p0 q0 (by omega)).2 h⟩
          · right; left; omega
        · left; omega)
      by_cases g1 : (n : Int) < pn
      · have t1 : decide ((n : Int) < pn) = true := by simp [g1]
        by_cases g2 : (n : Int) < qn
        · have t2 : decide ((n : Int) < qn) = true := by simp [g2]
          have t3 : (bitI pa n == bitI qa n) = false := by
            rw [beq_eq_false_iff_ne]; exact fun h => h1 ⟨g1, g2, h⟩
          clear h1
          go_wp2_with fail
          go_quiet ((go_at_call 23; first | exact rBit_q _ _ _ _ p0 p1 | exact rBit_q _ _ _ _ q0 q1))
          go_wp2_with fail
          refine (rOf_any pa n _ p0 p1 (by omega)).mono ?_
          rintro e w1 ⟨rfl, hb1⟩
          have hW1 : Below w.heap.size w (wr.drewN nq) := by rw [HW.out, HB0.out]; exact below_drewN (below_drewN HB.out _) _
          have pb : PBox w1 (B0 + 1 + 1) 0 0 := PBox.below (by rw [HW.out]; exact PBox.drewN (PBox.drewN HX.out)) hb1
          have b1 := bthen hW1 hb1
          have f0 := pb.f0
          have f1 := pb.f1
          have g0 := pb.c0
          have g1 := pb.c1
          clear hW1 hb1
          go_wp2_with fail
          have p2 := pb.set (andM pa n) n
          have b2 := (b1.setCell (p := ⟨B0 + 1 + 1, 0, none⟩) (by have := HB0.out; simp; omega) (.int .u32 (andM pa n))).setCell (p := ⟨B0 + 1 + 1, 1, none⟩) (by have := HB0.out; simp; omega) (.int .i64 n)
          generalize (w1.setCell ⟨B0 + 1 + 1, 0, none⟩ (.int .u32 (andM pa n))).setCell ⟨B0 + 1 + 1, 1, none⟩ (.int .i64 n) = W2 at *
          have q0 := p2.c0
          have q1 := p2.c1
          refine bodyPost_ret (v := .agg #[.int .u32 (andM pa n), .int .i64 n]) (by simp [results, Tryd.results32, go_sem, q0, q1]) rfl ⟨⟨n, HC.out, HE.out, rfl⟩, b2⟩
        · have t2 : decide ((n : Int) < qn) = false := by simp; omega
          clear h1
          go_wp2_with fail
          go_quiet (fail)
          go_wp2_with fail
          refine (rOf_any pa n _ p0 p1 (by omega)).mono ?_
          rintro e w1 ⟨rfl, hb1⟩
          have hW1 : Below w.heap.size w (wr.drewN nq) := by rw [HW.out, HB0.out]; exact below_drewN (below_drewN HB.out _) _
          have pb : PBox w1 (B0 + 1 + 1) 0 0 := PBox.below (by rw [HW.out]; exact PBox.drewN (PBox.drewN HX.out)) hb1
          have b1 := bthen hW1 hb1
          have f0 := pb.f0
          have f1 := pb.f1
          have g0 := pb.c0
          have g1 := pb.c1
          clear hW1 hb1
          go_wp2_with fail
          have p2 := pb.set (andM pa n) n
          have b2 := (b1.setCell (p := ⟨B0 + 1 + 1, 0, none⟩) (by have := HB0.out; simp; omega) (.int .u32 (andM pa n))).setCell (p := ⟨B0 + 1 + 1, 1, none⟩) (by have := HB0.out; simp; omega) (.int .i64 n)
          generalize (w1.setCell ⟨B0 + 1 + 1, 0, none⟩ (.int .u32 (andM pa n))).setCell ⟨B0 + 1 + 1, 1, none⟩ (.int .i64 n) = W2 at *
          have q0 := p2.c0
          have q1 := p2.c1
          refine bodyPost_ret (v := .agg #[.int .u32 (andM pa n), .int .i64 n]) (by simp [results, Tryd.results32, go_sem, q0, q1]) rfl ⟨⟨n, HC.out, HE.out, rfl⟩, b2⟩
      · have t1 : decide ((n : Int) < pn) = false := by simp; omega
        clear h1
        go_wp2_with fail
        go_quiet (fail)
        go_wp2_with fail
        refine (rOf_any pa n _ p0 p1 (by omega)).mono ?_
        rintro e w1 ⟨rfl, hb1⟩
        have hW1 : Below w.heap.size w (wr.drewN nq) := by rw [HW.out, HB0.out]; exact below_drewN (below_drewN HB.out _) _
        have pb : PBox w1 (B0 + 1 + 1) 0 0 := PBox.below (by rw [HW.out]; exact PBox.drewN (PBox.drewN HX.out)) hb1
        have b1 := bthen hW1 hb1
        have f0 := pb.f0
        have f1 := pb.f1
        have g0 := pb.c0
        have g1 := pb.c1
        clear hW1 hb1
        go_wp2_with fail
        have p2 := pb.set (andM pa n) n
        have b2 := (b1.setCell (p := ⟨B0 + 1 + 1, 0, none⟩) (by have := HB0.out; simp; omega) (.int .u32 (andM pa n))).setCell (p := ⟨B0 + 1 + 1, 1, none⟩) (by have := HB0.out; simp; omega) (.int .i64 n)
        generalize (w1.setCell ⟨B0 + 1 + 1, 0, none⟩ (.int .u32 (andM pa n))).setCell ⟨B0 + 1 + 1, 1, none⟩ (.int .i64 n) = W2 at *
        have q0 := p2.c0
        have q1 := p2.c1
        refine bodyPost_ret (v := .agg #[.int .u32 (andM pa n), .int .i64 n]) (by simp [results, Tryd.results32, go_sem, q0, q1]) rfl ⟨⟨n, HC.out, HE.out, rfl⟩, b2⟩
end Go.Proofs.YtmmoccceafcfkaaDoor
