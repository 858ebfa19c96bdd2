/- Contract: the law's rows. (Printed by gen_r3.py.) -/
import Derived.Test.YtkigoihdmojpfaaR2
import Derived.Test.YtkigoihdmojpfaaT0
namespace Go.Proofs.Ytkigoihdmojpfaa
open Go.RowKit Go.Shelf

attribute [local go_sem] Oper.semAt_some

/-- between two rounds -/
def rI (m : Nat) (many : Int) (bn : Nat) (W0 : World) (pre : List (Fin m)) (W : World) : Prop :=
  ((pre.length = 0 ∨ (pre.length : Int) < many) ∧ OneB W bn (.int .i64 pre.length) 3) ∧ W0.grownBy W (some bn)
/-- a round has left -/
def rX (m : Nat) (many : Int) (bn : Nat) (W0 : World) (c : Code) (pre : List (Fin m)) (W : World) : Prop :=
  ((c = .ret ∧ ∀ k, k ≤ m → pre ≠ upF m k) ∨ (c = .exit 0 ∧ 0 < pre.length ∧ many ≤ pre.length ∧ (pre.length = 1 ∨ (pre.length : Int) ≤ many))) ∧ (c = .ret ∨ (OneB W bn (.int .i64 pre.length) 3 ∧ W0.grownBy W (some bn)))
theorem rI_own (m : Nat) (many : Int) (bn : Nat) (W0 : World) : OwnFrom W0.heap.size (rI m many bn W0) :=
  OwnFrom.and (OwnFrom.and (fun _ _ _ _ hs _ _ => hs) (Own.from (oneB_own bn 3 (fun (pre : List (Fin m)) => .int .i64 pre.length)) _)) (grown_own W0 bn)
theorem rX_own (m : Nat) (many : Int) (bn : Nat) (W0 : World) (c : Code) : OwnFrom W0.heap.size (rX m many bn W0 c) := fun s X Y row hs hg hr => by
  refine ⟨hs.1, ?_⟩
  rcases hs.2 with h | h
  · exact .inl h
  · exact .inr ⟨Own.from (oneB_own bn 3 (fun (pre : List (Fin m)) => .int .i64 pre.length)) _ s X Y row h.1 hg hr, grown_own (β := List (Fin m)) W0 bn s X Y row h.2 hg hr⟩
theorem grown_drewN {W0 W : World} {k : Nat} (h : W0.grownBy W (some k)) (n : Nat) : W0.grownBy (W.drewN n) (some k) := ⟨h.os, h.tape, h.output, h.size, h.block⟩
theorem keeps_drewN (W : World) (n : Nat) : KeepsOthers W (W.drewN n) := ⟨Nat.le_refl _, fun _ _ h _ => h⟩
theorem upF_last {m k : Nat} {pre : List (Fin m)} {x : Fin m} (hk : k ≤ m) (h : pre ++ [x] = upF m k) : x.1 = pre.length := by
  have hl := congrArg List.length h
  rw [upF_len hk] at hl
  simp at hl
  subst hl
  rw [upF_succ (by omega : pre.length < m)] at h
  have := List.append_inj_right' h rfl
  simp at this
  rw [this]
theorem tboxB_own {β : Type} (b : Nat) (r : TR) : Own (fun (_ : β) W => TBox W b r.kind r.addr r.len) := fun s X Y row hs hg hrow =>
  (hg.block b (Array.getElem?_eq_some_iff.1 hs).1 (fun e' => by obtain ⟨o, ho, hc⟩ := hrow b e'.symm; rw [show X.heap[b]? = _ from hs] at ho; cases ho; cases hc)).trans hs

set_option maxRecDepth 1000000 in
set_option maxHeartbeats 8000000 in
theorem rowsL_any (qv : Value) (L : List TR) (base' : Option Addr) (g' cap' : Nat) (many : Int) (w : World) (hL : L.length < 1000000)
    (hA : ∀ W, Below w.heap.size w W → Calls Try.prog 11 #[qv] W fun e w' => ∃ v', e = .returned v' ∧ AllV W w' L v') (hS' : SL w base' g' 0 L) :
    Calls Try.prog 12 #[qv, .agg #[.slice base' L.length cap'], .int .i64 many] w fun e w' => e = .returned (.bool true) ∧ Below w.heap.size w w' := by
  have hnf : ∀ (b : Nat) (W : World), (binOp .eql 41 (.func (.func 34) #[] #[.pointer (some ⟨b, 0, none⟩)]) .nilFunc).run Try.prog W = .ok (.bool false) W := fun _ _ => by kernel_rfl
  have B0 : Below w.heap.size w (((w.alloc (.cells #[.slice base' L.length cap'] 37)).alloc (.cells #[.int .i64 many] 3)).alloc (.cells #[.bool false] 4)) := below3 _ _ _ _
  have HX : ∀ X, X = (((w.alloc (.cells #[.slice base' L.length cap'] 37)).alloc (.cells #[.int .i64 many] 3)).alloc (.cells #[.bool false] 4)) → OneB X w.heap.size (.slice base' L.length cap') 37 ∧ OneB X (w.heap.size + 1) (.int .i64 many) 3 ∧ OneB X (w.heap.size + 1 + 1) (.bool false) 4 ∧ X.heap.size = w.heap.size + 1 + 1 + 1 ∧ Below w.heap.size w X := by
    intro X e
    subst e
    refine ⟨((OneB.new w _ _).alloc _).alloc _, ?_, ?_, by simp, B0⟩
    · have := (OneB.new (w.alloc (.cells #[.slice base' L.length cap'] 37)) (.int .i64 many) 3).alloc (.cells #[.bool false] 4)
      simpa using this
    · have := OneB.new ((w.alloc (.cells #[.slice base' L.length cap'] 37)).alloc (.cells #[.int .i64 many] 3)) (.bool false) 4
      simpa using this
  have HA := Lib.hid hA
  have HSx := Lib.hid hS'
  have hgl' := hS'.lt
  clear B0 hA hS'
  refine (callsIn_wide (n := 3)).1 ?_
  refine callsIn_of_wp_marks Try.func12 rfl trivial ?_ rfl
  simp only [Try.ntmps12, List.size_toArray, List.length_cons, List.length_nil, Nat.reduceAdd, Nat.reduceSub, Array.replicate_succ, Array.replicate_zero, List.push_toArray, List.append_toArray, List.nil_append, List.cons_append]
  refine wpIn_wide.2 ?_
  go_upto_region 1 with fail
  generalize (((w.alloc (.cells #[.slice base' L.length cap'] 37)).alloc (.cells #[.int .i64 many] 3)).alloc (.cells #[.bool false] 4)) = X at *
  obtain ⟨p4, p5, p6, hXs, hXb⟩ := HX X rfl
  have P4 := Lib.hid p4
  have P5 := Lib.hid p5
  have P6 := Lib.hid p6
  have HXb := Lib.hid hXb
  clear HX p4 p5 p6 hXb
  go_wp2_with (go_at_call 11; (with_reducible refine (HA.out _ HXb.out).mono ?_); rintro e w1 hA; obtain ⟨v', rfl, b, base, g, cap, rfl, hB, hS, hBl, hg, hb⟩ := hA; have HBx := Lib.hid hB; have HS := Lib.hid hS; have HBl := Lib.hid hBl; have Hb := Lib.hid hb; clear hB hS hBl hg hb)
  have hbl1 : b < w1.heap.size := (Array.getElem?_eq_some_iff.1 HBx.out).1
  have hgl1 : g < w1.heap.size := HS.out.lt
  have hx1 := Hb.out.size
  have hb2 := bthen HXb.out Hb.out
  obtain ⟨bn, hbn⟩ : ∃ bn, bn = w1.heap.size := ⟨_, rfl⟩
  have HW : ∀ W0, W0 = w1.alloc (.cells #[.int .i64 0] 3) → (OneB W0 w.heap.size (.slice base' L.length cap') 37 ∧ OneB W0 (w.heap.size + 1) (.int .i64 many) 3 ∧ OneB W0 (w.heap.size + 1 + 1) (.bool false) 4 ∧ OneB W0 bn (.int .i64 0) 3 ∧ W0.heap.size = bn + 1) ∧ (W0.heap[b]? = some (.cells #[.slice base L.length cap] 72 (0, 0)) ∧ SL W0 base g 0 L ∧ SL W0 base' g' 0 L ∧ Below w.heap.size w W0) := by
    intro W0 e
    subst e
    have hb3 := below1 w1 (.cells #[.int .i64 0] 3)
    refine ⟨⟨(P4.out.below Hb.out).below hb3, (P5.out.below Hb.out).below hb3, (P6.out.below Hb.out).below hb3, by rw [hbn]; exact OneB.new w1 _ _, by simp [hbn]⟩, (hb3.block b hbl1).trans HBx.out, HS.out.below hb3, (HSx.out.below hb2).below hb3, bthen hb2 hb3⟩
  rw [← hbn] at hbl1 hgl1 hx1 ⊢
  generalize w1.alloc (.cells #[.int .i64 0] 3) = W0 at *
  obtain ⟨⟨h4, h5, h6, h7, hsz⟩, hB4, hS4, hS4', HBB⟩ := HW W0 rfl
  have HB := Lib.hid HBB
  clear HW HBB hb2 P4 P5 P6 HSx HBx HS HA hbn
  refine (wpIn_wide (n := 3)).1 ?_
  refine wpIn_rangeFunc_ownH rfl (by omega) (gf := 34) (lb := #[.pointer (some ⟨b, 0, none⟩)]) rfl trivial (enters_of Try.func34 (by kernel_rfl) rfl)
    (All_stops (3 - 1) b g cap base L hL W0 hB4 hS4) kpA_t (kpA_b (by omega) hS4.lt) (Below.refl _ _) (fun _ => rfl)
    (rI L.length many bn W0) (rX L.length many bn W0) (rI_own _ _ _ _) (rX_own _ _ _ _)
    ⟨⟨.inl rfl, h7⟩, ⟨rfl, rfl, rfl, Nat.le_refl _, fun _ _ _ => rfl⟩⟩
    (fun x a' W => ∃ Bx, (W0.heap.size ≤ Bx ∧ a' = { tmps := #[qv, .agg #[.slice base' L.length cap'], .int .i64 many, undef, .pointer (some ⟨w.heap.size, 0, none⟩), .pointer (some ⟨(w.heap.size + 1), 0, none⟩), .pointer (some ⟨(w.heap.size + 1 + 1), 0, none⟩), .func (.func 34) #[] #[.pointer (some ⟨b, 0, none⟩)], .pointer (some ⟨bn, 0, none⟩), .pointer (some ⟨Bx, 0, none⟩), .int .i64 (recAt L x).due, qv, .func (.func 34) #[] #[.pointer (some ⟨b, 0, none⟩)], .func (.func 34) #[] #[.pointer (some ⟨b, 0, none⟩)], .bool false, .func (.func 34) #[] #[.pointer (some ⟨b, 0, none⟩)], .agg #[.int .i64 (recAt L x).kind, .int .u32 (recAt L x).addr, .int .i64 (recAt L x).len], .int .i64 (recAt L x).due, undef, undef, undef, undef, undef, undef, undef, undef, undef, undef, undef, undef, undef, undef, undef, undef, undef, undef, undef, undef, undef, undef, undef, undef, undef, undef, undef, undef, undef], defers := [] }) ∧ TBox W Bx (recAt L x).kind (recAt L x).addr (recAt L x).len)
    (fun x a' s X Y row hs hg hr => by obtain ⟨Bx, h1, h2⟩ := hs; exact ⟨Bx, h1, Own.from (tboxB_own (β := Unit) Bx (recAt L x)) _ s X Y row h2 hg hr⟩) ?assign ?body ?done ?stop
  case assign =>
    rintro l pre x W K hI hK
    obtain ⟨hI1, hI2⟩ := hI
    have hws := hI2.size
    unfold encA
    gi_wp2_with fail
    exact hK _ _ ((KeepsOthers.alloc _ _).from _) ⟨Below.heap_alloc _ _ b (by omega), Below.heap_alloc _ _ g (by omega)⟩ ⟨⟨hI1.1, hI1.2.alloc _⟩, grown_alloc hI2 _⟩ ⟨W.heap.size, ⟨hws, rfl⟩, heap_alloc_new W _⟩
  case body =>
    rintro l pre x a' W hl' ⟨r, hr⟩ ⟨⟨htn, hn⟩, hg⟩ ⟨Bx, ⟨hBx, rfl⟩, hRB⟩ hlt
    have x0 := hn.c
    have x1 := hn.f
    have y4 := (h4.grown hg (by omega)).c
    have y5 := (h5.grown hg (by omega)).c
    have y6 := (h6.grown hg (by omega)).c
    have y6f := (h6.grown hg (by omega)).f
    have q0 := hRB.c0
    have q1 := hRB.c1
    have q2 := hRB.c2
    have HG := Lib.hid hg
    have HN := Lib.hid hn
    have HTn := Lib.hid htn
    clear hg hn htn hRB
    obtain ⟨rr, hrr⟩ : ∃ rr, L[pre.length]? = some rr := ⟨_, List.getElem?_eq_getElem hlt⟩
    obtain ⟨rfl, z0, z1, z2, z3⟩ := (hS4'.grown HG.out (by omega)).row _ rr hrr
    simp only [Nat.zero_add] at z0 z1 z2 z3
    have t1 : decide (L.length ≤ pre.length) = false := by simp; omega
    have t2 : decide ((L.length : Int) ≤ (pre.length : Int)) = false := by simp; omega
    have i0 : (0 : Int) ≤ (pre.length : Int) := by omega
    have i1 : (pre.length : Int) < (L.length : Int) := by omega
    have HX0 := Lib.hid (show (recAt L x) ≠ rr → ∀ k, k ≤ L.length → pre ++ [x] ≠ upF L.length k from fun hne k hk h => hne (by
      have e1 := upF_last hk h
      have h1 := List.getElem?_eq_getElem x.2
      have h2 : L[x.1]? = some rr := by rw [e1]; exact hrr
      rw [h2] at h1
      exact (Option.some.inj h1).symm))
    have HSz2 := Lib.hid (show (pre ++ [x]).length = pre.length + 1 by simp)
    clear hrr
    revert q0 q1 q2 HX0
    generalize hyx : recAt L x = yx
    intro q0 q1 q2 HX0
    have HYx := Lib.hid hyx
    clear hyx
    obtain ⟨yk, ya, yn, yd⟩ := yx
    obtain ⟨zk, za, zn, zd⟩ := rr
    simp only at q0 q1 q2 z0 z1 z2 z3
    by_cases e1 : (⟨yk, ya, yn, yd⟩ : TR) = ⟨zk, za, zn, zd⟩
    · cases e1
      clear HX0
      have HN2 := Lib.hid (HN.out.set (.int .i64 ((pre.length : Int) + 1)))
      have HG2 := Lib.hid (grown_setR HG.out (.int .i64 ((pre.length : Int) + 1)))
      have w5 := (h5.grown HG2.out (by omega)).c
      by_cases e4 : many ≤ (pre.length : Int) + 1
      · have t5 : decide (many ≤ (pre.length : Int) + 1) = true := by simp [e4]
        gi_wp2_with fail
        refine wpIn_quiet_round (by kernel_rfl) (by kernel_rfl) (by kernel_rfl) (fun ⟨_, _, h⟩ => h) ?_
        repeat (first | go_big_quiet_step (fail) | quiet_step (fail))
        refine wpQuiet_nil ?_
        rintro _ ⟨nq, rfl⟩
        gi_wp2_with fail
        all_goals
          refine ⟨((keeps_drewN _ _).trans (KeepsOthers.setCell _ _ _)).from _, .inr ⟨rfl, by rw [HSz2.out]; omega, by rw [HSz2.out]; omega, ?_⟩, .inr ⟨by rw [HSz2.out]; exact HN2.out, grown_setR (grown_drewN HG.out nq) _⟩⟩
          rw [HSz2.out]
          rcases HTn.out with h | h
          · left; omega
          · right; omega
      · have t5 : decide (many ≤ (pre.length : Int) + 1) = false := by simp; omega
        gi_wp2_with fail
        refine wpIn_quiet_round (by kernel_rfl) (by kernel_rfl) (by kernel_rfl) (fun ⟨_, _, h⟩ => h) ?_
        repeat (first | go_big_quiet_step (fail) | quiet_step (fail))
        refine wpQuiet_nil ?_
        rintro _ ⟨nq, rfl⟩
        gi_wp2_with fail
        all_goals
          refine ⟨((keeps_drewN _ _).trans (KeepsOthers.setCell _ _ _)).from _, ⟨?_, ?_⟩, ⟨⟨.inr (by rw [HSz2.out]; omega), by rw [HSz2.out]; exact HN2.out⟩, grown_setR (grown_drewN HG.out nq) _⟩⟩
          · exact Below.heap_setCell (W.drewN nq) _ _ b (by simp; omega)
          · exact Below.heap_setCell (W.drewN nq) _ _ g (by simp; omega)
    · have HX := Lib.hid (HX0.out e1)
      clear HX0
      by_cases e2 : yk = zk
      · subst e2
        by_cases e3 : ya = za
        · subst e3
          by_cases e5 : yn = zn
          · subst e5
            have e6 : ¬ yd = zd := fun h => e1 (by rw [h])
            clear e1
            have t6 : (zd == yd) = false := by simpa using Ne.symm e6
            have t7 : (yd == zd) = false := by simpa using e6
            clear e6
            gi_wp2_with fail
            refine wpIn_quiet_round (by kernel_rfl) (by kernel_rfl) (by kernel_rfl) (fun ⟨_, _, h⟩ => h) ?_
            repeat (first | go_big_quiet_step (fail) | quiet_step (fail))
            refine wpQuiet_nil ?_
            rintro _ ⟨nq, rfl⟩
            gi_wp2_with fail
            all_goals exact ⟨((keeps_drewN _ _).trans (KeepsOthers.setCell _ _ _)).from _, .inl ⟨rfl, HX.out⟩, .inl rfl⟩
          · clear e1
            have t6 : (zn == yn) = false := by simpa using Ne.symm e5
            have t7 : (yn == zn) = false := by simpa using e5
            clear e5
            gi_wp2_with fail
            refine wpIn_quiet_round (by kernel_rfl) (by kernel_rfl) (by kernel_rfl) (fun ⟨_, _, h⟩ => h) ?_
            repeat (first | go_big_quiet_step (fail) | quiet_step (fail))
            refine wpQuiet_nil ?_
            rintro _ ⟨nq, rfl⟩
            gi_wp2_with fail
            all_goals exact ⟨((keeps_drewN _ _).trans (KeepsOthers.setCell _ _ _)).from _, .inl ⟨rfl, HX.out⟩, .inl rfl⟩
        · clear e1
          have t6 : (za == ya) = false := by simpa using Ne.symm e3
          have t7 : (ya == za) = false := by simpa using e3
          clear e3
          gi_wp2_with fail
          refine wpIn_quiet_round (by kernel_rfl) (by kernel_rfl) (by kernel_rfl) (fun ⟨_, _, h⟩ => h) ?_
          repeat (first | go_big_quiet_step (fail) | quiet_step (fail))
          refine wpQuiet_nil ?_
          rintro _ ⟨nq, rfl⟩
          gi_wp2_with fail
          all_goals exact ⟨((keeps_drewN _ _).trans (KeepsOthers.setCell _ _ _)).from _, .inl ⟨rfl, HX.out⟩, .inl rfl⟩
      · clear e1
        have t6 : (zk == yk) = false := by simpa using Ne.symm e2
        have t7 : (yk == zk) = false := by simpa using e2
        clear e2
        gi_wp2_with fail
        refine wpIn_quiet_round (by kernel_rfl) (by kernel_rfl) (by kernel_rfl) (fun ⟨_, _, h⟩ => h) ?_
        repeat (first | go_big_quiet_step (fail) | quiet_step (fail))
        refine wpQuiet_nil ?_
        rintro _ ⟨nq, rfl⟩
        gi_wp2_with fail
        all_goals exact ⟨((keeps_drewN _ _).trans (KeepsOthers.setCell _ _ _)).from _, .inl ⟨rfl, HX.out⟩, .inl rfl⟩
  case done =>
    rintro D xs W hD rfl ⟨⟨htn, hn⟩, hg⟩ hK
    obtain ⟨pn, hpn⟩ : ∃ pn : Nat, pn = L.length := ⟨_, rfl⟩
    rw [upF_len (Nat.le_refl _), ← hpn] at htn hn
    have x0 := hn.c
    have y4 := (h4.grown hg (by omega)).c
    have y5 := (h5.grown hg (by omega)).c
    have o6 := h6.grown hg (by omega)
    have y6 := o6.c
    have y6f := o6.f
    have hmin : (pn : Int) = min (L.length : Int) (max 1 many) := by rcases htn with h | h <;> omega
    clear hpn htn
    have BW := HB.out.grown hg (by omega) (fun k e => by cases e; omega)
    have HM := Lib.hid hmin
    clear hmin
    go_wp2_with fail
    all_goals
      have hmin := HM.out
      first
        | rw [show ((pn : Int) == min (L.length : Int) (max 1 many)) = true from by rw [← hmin]; simp]
        | rw [show ((pn : Int) == many) = true by simp; omega]
        | rw [show ((pn : Int) == (L.length : Int)) = true by simp; omega]
        | rw [show (pn == L.length) = true by simp; omega]
        | rw [show ((pn : Int) == 1) = true by simp; omega]
        | rw [show (pn == 1) = true by simp; omega]
        | skip
      have o7 := o6.set (.bool true)
      have B2 := BW.setCell (p := ⟨w.heap.size + 1 + 1, 0, none⟩) (by simp; omega) (.bool true)
      have k1 := (KeepsOthers.setCell W ⟨w.heap.size + 1 + 1, 0, none⟩ (.bool true)).same D _ hK rfl
      generalize W.setCell ⟨w.heap.size + 1 + 1, 0, none⟩ (.bool true) = V4 at *
      have o8 : OneB (V4.putObj D (.deferred none)) (w.heap.size + 1 + 1) (.bool true) 4 := (World.putObj_heap_other (by omega)).trans o7
      have B3 := B2.trans (belowK_b (w := w) (Nat.le_refl _) V4 D _ (.deferred none) (by omega) k1 rfl rfl)
      refine ⟨by simp, .inl ⟨_, _, rfl, run_takeDeferred k1, ?_⟩⟩
      have q0 := o8.c
      exact ⟨.bool true, by simp [results, Try.results12, go_sem, q0], rfl, B3⟩
  case stop =>
    rintro D c pre W hD ⟨k, hk, hkp⟩ ⟨h1, h2⟩ hK
    rcases h1 with ⟨rfl, h⟩ | ⟨rfl, hp, hm1, hm2⟩
    · exact absurd hkp (h k hk)
    · rcases h2 with h | ⟨hn, hg⟩
      · cases h
      · have hpl : pre.length ≤ L.length := by rw [hkp, upF_len hk]; exact hk
        have x0 := hn.c
        have y4 := (h4.grown hg (by omega)).c
        have y5 := (h5.grown hg (by omega)).c
        have o6 := h6.grown hg (by omega)
        have y6 := o6.c
        have y6f := o6.f
        clear hkp
        generalize pre.length = pn at *
        have hmin : (pn : Int) = min (L.length : Int) (max 1 many) := by rcases hm2 with h | h <;> omega
        have BW := HB.out.grown hg (by omega) (fun k e => by cases e; omega)
        refine wpIn_wide.2 ?_
        have HM := Lib.hid hmin
        clear hmin
        go_wp2_with fail
        all_goals
          have hmin := HM.out
          first
            | rw [show ((pn : Int) == min (L.length : Int) (max 1 many)) = true from by rw [← hmin]; simp]
            | rw [show ((pn : Int) == many) = true by simp; omega]
            | rw [show ((pn : Int) == (L.length : Int)) = true by simp; omega]
            | rw [show (pn == L.length) = true by simp; omega]
            | rw [show ((pn : Int) == 1) = true by simp; omega]
            | rw [show (pn == 1) = true by simp; omega]
            | skip
          have o7 := o6.set (.bool true)
          have B2 := BW.setCell (p := ⟨w.heap.size + 1 + 1, 0, none⟩) (by simp; omega) (.bool true)
          have k1 := (KeepsOthers.setCell W ⟨w.heap.size + 1 + 1, 0, none⟩ (.bool true)).same D _ hK rfl
          generalize W.setCell ⟨w.heap.size + 1 + 1, 0, none⟩ (.bool true) = V4 at *
          have o8 : OneB (V4.putObj D (.deferred none)) (w.heap.size + 1 + 1) (.bool true) 4 := (World.putObj_heap_other (by omega)).trans o7
          have B3 := B2.trans (belowK_b (w := w) (Nat.le_refl _) V4 D _ (.deferred none) (by omega) k1 rfl rfl)
          refine ⟨by simp, .inl ⟨_, _, rfl, run_takeDeferred k1, ?_⟩⟩
          have q0 := o8.c
          exact ⟨.bool true, by simp [results, Try.results12, go_sem, q0], rfl, B3⟩
end Go.Proofs.Ytkigoihdmojpfaa
