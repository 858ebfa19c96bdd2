/- Contract: the law's rows. (Printed by gen_t32.py.) -/
import Derived.Test.YtbacahoihkpkpaaDoorT24
import Derived.RangeFuncLeaves
namespace Go.Proofs.YtbacahoihkpkpaaDoor
open Go.RowKit Go.Shelf

attribute [local go_sem] Oper.semAt_some

theorem OneB.grown {W W' : World} {b k : Nat} {v : Value} {t : TypeId} (h : OneB W b v t) (hg : W.grownBy W' (some k)) (hne : b ≠ k) : OneB W' b v t := (hg.block b h.lt (fun e => hne (Option.some.inj e))).trans h
theorem grown_own {β : Type} (W0 : World) (k : Nat) : OwnFrom W0.heap.size (fun (_ : β) W => W0.grownBy W (some k)) := fun _ X Y row hs hg hr =>
  ⟨hg.os.trans hs.os, hg.tape.trans hs.tape, hg.output.trans hs.output, Nat.le_trans hs.size hg.size, fun j hj hne => (hg.block j (Nat.lt_of_lt_of_le hj hs.size) (fun e => by have := (hr j e.symm).1; omega)).trans (hs.block j hj hne)⟩
theorem grown_setR {W0 W : World} {k : Nat} (h : W0.grownBy W (some k)) (v : Value) : W0.grownBy (W.setCell ⟨k, 0, none⟩ v) (some k) :=
  ⟨h.os, h.tape, h.output, by have := h.size; simpa using this, fun j hj hne => (Below.heap_setCell W _ v j (fun e => hne (by rw [e]))).trans (h.block j hj hne)⟩
theorem grown_alloc {W0 W : World} {k : Nat} (h : W0.grownBy W (some k)) (o : Obj) : W0.grownBy (W.alloc o) (some k) :=
  ⟨h.os, h.tape, h.output, by have := h.size; simp; omega, fun j hj hne => (Below.heap_alloc W o j (Nat.lt_of_lt_of_le hj h.size)).trans (h.block j hj hne)⟩
theorem RL.grown {W W' : World} {base : Option Addr} {g o k : Nat} {L : List (Key × Int)} (h : RL W base g o L) (hg : W.grownBy W' (some k)) (hne : g ≠ k) : RL W' base g o L := h.of_block (hg.block g h.lt (fun e => hne (Option.some.inj e)))
/-- between two rounds -/
def rI (m : Nat) (many : Int) (bn : Nat) (W0 : World) (pre : List (Fin m)) (W : World) : Prop :=
  ((pre.length = 0 ∨ (pre.length : Int) < many) ∧ OneB W bn (.int .i64 pre.length) 3) ∧ W0.grownBy W (some bn)
/-- a round has left -/
def rX (m : Nat) (many : Int) (bn : Nat) (W0 : World) (c : Code) (pre : List (Fin m)) (W : World) : Prop :=
  ((c = .ret ∧ ∀ k, k ≤ m → pre ≠ upF m k) ∨ (c = .exit 0 ∧ 0 < pre.length ∧ many ≤ pre.length ∧ (pre.length = 1 ∨ (pre.length : Int) ≤ many))) ∧ (c = .ret ∨ (OneB W bn (.int .i64 pre.length) 3 ∧ W0.grownBy W (some bn)))
theorem rI_own (m : Nat) (many : Int) (bn : Nat) (W0 : World) : OwnFrom W0.heap.size (rI m many bn W0) :=
  OwnFrom.and (OwnFrom.and (fun _ _ _ _ hs _ _ => hs) (Own.from (oneB_own bn 3 (fun (pre : List (Fin m)) => .int .i64 pre.length)) _)) (grown_own W0 bn)
theorem rX_own (m : Nat) (many : Int) (bn : Nat) (W0 : World) (c : Code) : OwnFrom W0.heap.size (rX m many bn W0 c) := fun s X Y row hs hg hr => by
  refine ⟨hs.1, ?_⟩
  rcases hs.2 with h | h
  · exact .inl h
  · exact .inr ⟨Own.from (oneB_own bn 3 (fun (pre : List (Fin m)) => .int .i64 pre.length)) _ s X Y row h.1 hg hr, grown_own (β := List (Fin m)) W0 bn s X Y row h.2 hg hr⟩
theorem grown_drewN {W0 W : World} {k : Nat} (h : W0.grownBy W (some k)) (n : Nat) : W0.grownBy (W.drewN n) (some k) := ⟨h.os, h.tape, h.output, h.size, h.block⟩
theorem upF_last {m k : Nat} {pre : List (Fin m)} {x : Fin m} (hk : k ≤ m) (h : pre ++ [x] = upF m k) : x.1 = pre.length := by
  have hl := congrArg List.length h
  rw [upF_len hk] at hl
  simp at hl
  subst hl
  rw [upF_succ (by omega : pre.length < m)] at h
  have := List.append_inj_right' h rfl
  simp at this
  rw [this]
/-- a box of a prefix -/
def PfxB' (W : World) (b : Nat) (x : Key × Int) : Prop := W.heap[b]? = some (.cells #[.int .u32 (ka x.1), .int .i64 x.1.length] 26 (0, 0))
theorem pfxB_own {β : Type} (b : Nat) (r : Key × Int) : Own (fun (_ : β) W => PfxB' W b r) := fun s X Y row hs hg hrow =>
  (hg.block b (Array.getElem?_eq_some_iff.1 hs).1 (fun e' => by obtain ⟨o, ho, hc⟩ := hrow b e'.symm; rw [show X.heap[b]? = _ from hs] at ho; cases ho; cases hc)).trans hs

set_option maxRecDepth 1000000 in
set_option maxHeartbeats 4000000 in
theorem rows_same (b : Nat) (L : List (Key × Int)) (base base' : Option Addr) (g g' o o' cap cap' : Nat) (many : Int) (w : World) (hL : L.length < 1000000)
    (hB : w.heap[b]? = some (.cells #[.slice base L.length cap] 71)) (hS : RL w base g o L) (hS' : RL w base' g' o' L) (hlk : ∀ x ∈ L, x.1.length ≤ 32) :
    Calls Tryd.prog 15 #[.func (.func 60) #[] #[.pointer (some ⟨b, 0, none⟩)], .slice base' L.length cap', .int .i64 many] w fun e w' => e = .returned (.bool true) ∧ Below w.heap.size w w' := by
  have hnf : ∀ (W : World), (binOp .eql 40 (.func (.func 60) #[] #[.pointer (some ⟨b, 0, none⟩)]) .nilFunc).run Tryd.prog W = .ok (.bool false) W := fun _ => by kernel_rfl
  have B0 : Below w.heap.size w ((((w.alloc (.cells #[.slice base' L.length cap'] 29)).alloc (.cells #[.int .i64 many] 3)).alloc (.cells #[.bool false] 4)).alloc (.cells #[.int .i64 0] 3)) := (((((Below.refl _ _).alloc (Nat.le_refl _) _).alloc (by simp) _).alloc (by simp; omega) _).alloc (by simp; omega) _)
  have hbl : b < w.heap.size := (Array.getElem?_eq_some_iff.1 hB).1
  have b4 : OneB ((((w.alloc (.cells #[.slice base' L.length cap'] 29)).alloc (.cells #[.int .i64 many] 3)).alloc (.cells #[.bool false] 4)).alloc (.cells #[.int .i64 0] 3)) w.heap.size (.slice base' L.length cap') 29 := (((OneB.new w _ _).alloc _).alloc _).alloc _
  have b5 : OneB ((((w.alloc (.cells #[.slice base' L.length cap'] 29)).alloc (.cells #[.int .i64 many] 3)).alloc (.cells #[.bool false] 4)).alloc (.cells #[.int .i64 0] 3)) (w.heap.size + 1) (.int .i64 many) 3 := by
    have := ((OneB.new (w.alloc (.cells #[.slice base' L.length cap'] 29)) (.int .i64 many) 3).alloc (.cells #[.bool false] 4)).alloc (.cells #[.int .i64 0] 3)
    simpa using this
  have b6 : OneB ((((w.alloc (.cells #[.slice base' L.length cap'] 29)).alloc (.cells #[.int .i64 many] 3)).alloc (.cells #[.bool false] 4)).alloc (.cells #[.int .i64 0] 3)) (w.heap.size + 1 + 1) (.bool false) 4 := by
    have := ((OneB.new ((w.alloc (.cells #[.slice base' L.length cap'] 29)).alloc (.cells #[.int .i64 many] 3)) (.bool false) 4)).alloc (.cells #[.int .i64 0] 3)
    simpa using this
  have b7 : OneB ((((w.alloc (.cells #[.slice base' L.length cap'] 29)).alloc (.cells #[.int .i64 many] 3)).alloc (.cells #[.bool false] 4)).alloc (.cells #[.int .i64 0] 3)) (w.heap.size + 1 + 1 + 1) (.int .i64 0) 3 := by
    have := OneB.new (((w.alloc (.cells #[.slice base' L.length cap'] 29)).alloc (.cells #[.int .i64 many] 3)).alloc (.cells #[.bool false] 4)) (.int .i64 0) 3
    simpa using this
  have hsz : ((((w.alloc (.cells #[.slice base' L.length cap'] 29)).alloc (.cells #[.int .i64 many] 3)).alloc (.cells #[.bool false] 4)).alloc (.cells #[.int .i64 0] 3)).heap.size = w.heap.size + 1 + 1 + 1 + 1 := by simp
  have hB4 := (B0.block b hbl).trans hB
  have hS4 := hS.below B0
  have hS4' := hS'.below B0
  have hgl := hS.lt
  have hgl' := hS'.lt
  have HB := Lib.hid B0
  have H4 := Lib.hid b4
  have H5 := Lib.hid b5
  have H6 := Lib.hid b6
  have H7 := Lib.hid b7
  have HSz := Lib.hid hsz
  have HB4 := Lib.hid hB4
  have HS4 := Lib.hid hS4
  have HS4' := Lib.hid hS4'
  clear B0 b4 b5 b6 b7 hsz hB4 hS4 hS4' hB hS hS'
  refine (callsIn_wide (n := 3)).1 ?_
  refine callsIn_of_wp_marks Tryd.func15 rfl trivial ?_ rfl
  simp only [Tryd.ntmps15, List.size_toArray, List.length_cons, List.length_nil, Nat.reduceAdd, Nat.reduceSub, Array.replicate_succ, Array.replicate_zero, List.push_toArray, List.append_toArray, List.nil_append, List.cons_append]
  refine wpIn_wide.2 ?_
  go_wp2_with fail
  generalize ((((w.alloc (.cells #[.slice base' L.length cap'] 29)).alloc (.cells #[.int .i64 many] 3)).alloc (.cells #[.bool false] 4)).alloc (.cells #[.int .i64 0] 3)) = W0 at *
  have h4 := H4.out; have h5 := H5.out; have h6 := H6.out; have h7 := H7.out; have hsz := HSz.out; have hB4 := HB4.out; have hS4 := HS4.out; have hS4' := HS4'.out
  clear H4 H5 H6 H7 HSz HB4 HS4 HS4'
  refine (wpIn_wide (n := 3)).1 ?_
  refine wpIn_rangeFunc_ownH rfl (by omega) (gf := 60) (lb := #[.pointer (some ⟨b, 0, none⟩)]) rfl trivial (enters_of Tryd.func60 (by kernel_rfl) rfl)
    (told_stops (3 - 1) b g o cap base L hL W0 hB4 hS4) kpA_t (kpA_b (by omega) hS4.lt) (Below.refl _ _) (fun _ => rfl)
    (rI L.length many (w.heap.size + 1 + 1 + 1) W0) (rX L.length many (w.heap.size + 1 + 1 + 1) W0) (rI_own _ _ _ _) (rX_own _ _ _ _)
    ⟨⟨.inl rfl, h7⟩, ⟨rfl, rfl, rfl, Nat.le_refl _, fun _ _ _ => rfl⟩⟩
    (fun x a' W => ∃ Bx, (W0.heap.size ≤ Bx ∧ a' = { tmps := #[.func (.func 60) #[] #[.pointer (some ⟨b, 0, none⟩)], (.slice base' L.length cap'), .int .i64 many, undef, .pointer (some ⟨w.heap.size, 0, none⟩), .pointer (some ⟨(w.heap.size + 1), 0, none⟩), .pointer (some ⟨(w.heap.size + 1 + 1), 0, none⟩), .pointer (some ⟨(w.heap.size + 1 + 1 + 1), 0, none⟩), .pointer (some ⟨Bx, 0, none⟩), .int .i64 (rAt L x).2, .func (.func 60) #[] #[.pointer (some ⟨b, 0, none⟩)], .bool false, .func (.func 60) #[] #[.pointer (some ⟨b, 0, none⟩)], .agg #[.int .u32 (ka (rAt L x).1), .int .i64 (rAt L x).1.length], .int .i64 (rAt L x).2, undef, undef, undef, undef, undef, undef, undef, undef, undef, undef, undef, undef, undef, undef, undef, undef, undef, undef, undef, undef, undef, undef, undef, undef, undef, undef, undef, undef, undef, undef, undef, undef, undef, undef], defers := [] }) ∧ PfxB' W Bx (rAt L x))
    (fun x a' s X Y row hs hg hr => by obtain ⟨Bx, h1, h2⟩ := hs; exact ⟨Bx, h1, Own.from (pfxB_own (β := Unit) Bx (rAt L x)) _ s X Y row h2 hg hr⟩) ?assign ?body ?done ?stop
  case assign =>
    rintro l pre x W K hI hK
    obtain ⟨hI1, hI2⟩ := hI
    have hws := hI2.size
    unfold encR
    gi_wp2_with fail
    exact hK _ _ ((KeepsOthers.alloc _ _).from _) ⟨Below.heap_alloc _ _ b (by omega), Below.heap_alloc _ _ g (by omega)⟩ ⟨⟨hI1.1, hI1.2.alloc _⟩, grown_alloc hI2 _⟩ ⟨W.heap.size, ⟨hws, rfl⟩, World.alloc_heap_new W _⟩
  case body =>
    rintro l pre x a' W hl' ⟨r, hr⟩ ⟨⟨htn, hn⟩, hg⟩ ⟨Bx, ⟨hBx, rfl⟩, hRB⟩ hlt
    have x0 := hn.c
    have x1 := hn.f
    have y4 := (h4.grown hg (by omega)).c
    have y5 := (h5.grown hg (by omega)).c
    have y6 := (h6.grown hg (by omega)).c
    have y6f := (h6.grown hg (by omega)).f
    have q0 : W.cell? ⟨Bx, 0, none⟩ = some (.int .u32 (ka (rAt L x).1)) := by simp [World.cell?, show W.heap[Bx]? = _ from hRB]
    have q1 : W.cell? ⟨Bx, 1, none⟩ = some (.int .i64 (rAt L x).1.length) := by simp [World.cell?, show W.heap[Bx]? = _ from hRB]
    have HG := Lib.hid hg
    have HN := Lib.hid hn
    have HTn := Lib.hid htn
    clear hg hn htn hRB
    obtain ⟨rr, hrr⟩ : ∃ rr, L[pre.length]? = some rr := ⟨_, List.getElem?_eq_getElem hlt⟩
    obtain ⟨rfl, z0, z1, z2⟩ := (hS4'.grown HG.out (by omega)).row _ rr hrr
    have t1 : decide (L.length ≤ pre.length) = false := by simp; omega
    have t2 : decide ((L.length : Int) ≤ (pre.length : Int)) = false := by simp; omega
    have i0 : (0 : Int) ≤ (pre.length : Int) := by omega
    have i1 : (pre.length : Int) < (L.length : Int) := by omega
    have HX0 := Lib.hid (show (rAt L x) ≠ rr → ∀ k, k ≤ L.length → pre ++ [x] ≠ upF L.length k from fun hne k hk h => hne (by
      have e1 := upF_last hk h
      have h1 := List.getElem?_eq_getElem x.2
      have h2 : L[x.1]? = some rr := by rw [e1]; exact hrr
      rw [h2] at h1
      exact (Option.some.inj h1).symm))
    have HSz2 := Lib.hid (show (pre ++ [x]).length = pre.length + 1 by simp)
    clear hrr
    have h32 : (rAt L x).1.length ≤ 32 := hlk _ (List.getElem_mem _)
    revert q0 q1 HX0 h32
    generalize hyx : rAt L x = yx
    intro q0 q1 HX0 h32
    have HYx := Lib.hid hyx
    clear hyx
    obtain ⟨yk, yv⟩ := yx
    obtain ⟨zk, zv⟩ := rr
    simp only at q0 q1 z0 z1 z2 h32
    by_cases e1 : (yk, yv) = (zk, zv)
    · obtain ⟨rfl, rfl⟩ := Prod.mk.inj e1
      clear e1 HX0
      have HN2 := Lib.hid (HN.out.set (.int .i64 ((pre.length : Int) + 1)))
      have HG2 := Lib.hid (grown_setR HG.out (.int .i64 ((pre.length : Int) + 1)))
      have w5 := (h5.grown HG2.out (by omega)).c
      by_cases e4 : many ≤ (pre.length : Int) + 1
      · have t5 : decide (many ≤ (pre.length : Int) + 1) = true := by simp [e4]
        gi_wp2_with fail
        refine wpIn_quiet_round (by kernel_rfl) (by kernel_rfl) (by kernel_rfl) (fun ⟨_, _, h⟩ => h) ?_
        repeat (first | go_big_quiet_step (fail) | quiet_step (fail))
        refine wpQuiet_nil ?_
        rintro _ ⟨nq, rfl⟩
        gi_wp2_with fail
        all_goals
          refine ⟨((keeps_drewN _ _).trans (KeepsOthers.setCell _ _ _)).from _, .inr ⟨rfl, by rw [HSz2.out]; omega, by rw [HSz2.out]; omega, ?_⟩, .inr ⟨by rw [HSz2.out]; exact HN2.out, grown_setR (grown_drewN HG.out nq) _⟩⟩
          rw [HSz2.out]
          rcases HTn.out with h | h
          · left; omega
          · right; omega
      · have t5 : decide (many ≤ (pre.length : Int) + 1) = false := by simp; omega
        gi_wp2_with fail
        refine wpIn_quiet_round (by kernel_rfl) (by kernel_rfl) (by kernel_rfl) (fun ⟨_, _, h⟩ => h) ?_
        repeat (first | go_big_quiet_step (fail) | quiet_step (fail))
        refine wpQuiet_nil ?_
        rintro _ ⟨nq, rfl⟩
        gi_wp2_with fail
        all_goals
          refine ⟨((keeps_drewN _ _).trans (KeepsOthers.setCell _ _ _)).from _, ⟨?_, ?_⟩, ⟨⟨.inr (by rw [HSz2.out]; omega), by rw [HSz2.out]; exact HN2.out⟩, grown_setR (grown_drewN HG.out nq) _⟩⟩
          · exact Below.heap_setCell (W.drewN nq) _ _ b (by simp; omega)
          · exact Below.heap_setCell (W.drewN nq) _ _ g (by simp; omega)
    · have HX := Lib.hid (HX0.out e1)
      clear HX0
      by_cases e2 : ka yk = ka zk
      · by_cases e3 : yk.length = zk.length
        · have hk := ka_inj h32 e2 (by omega)
          subst hk
          have hv : ¬ yv = zv := fun h => e1 (by rw [h])
          clear e1 e2 e3
          have t6 : (yv != zv) = true := by simpa using hv
          gi_wp2_with fail
          refine wpIn_quiet_round (by kernel_rfl) (by kernel_rfl) (by kernel_rfl) (fun ⟨_, _, h⟩ => h) ?_
          repeat (first | go_big_quiet_step (fail) | quiet_step (fail))
          refine wpQuiet_nil ?_
          rintro _ ⟨nq, rfl⟩
          gi_wp2_with fail
          all_goals exact ⟨((keeps_drewN _ _).trans (KeepsOthers.setCell _ _ _)).from _, .inl ⟨rfl, HX.out⟩, .inl rfl⟩
        · rw [← e2] at z0
          clear e1 e2
          have t6 : ((yk.length : Int) == (zk.length : Int)) = false := by (simp; omega)
          have t7 : (yk.length == zk.length) = false := by (simp; omega)
          clear e3
          gi_wp2_with fail
          refine wpIn_quiet_round (by kernel_rfl) (by kernel_rfl) (by kernel_rfl) (fun ⟨_, _, h⟩ => h) ?_
          repeat (first | go_big_quiet_step (fail) | quiet_step (fail))
          refine wpQuiet_nil ?_
          rintro _ ⟨nq, rfl⟩
          gi_wp2_with fail
          all_goals exact ⟨((keeps_drewN _ _).trans (KeepsOthers.setCell _ _ _)).from _, .inl ⟨rfl, HX.out⟩, .inl rfl⟩
      · clear e1
        have t6 : (ka yk == ka zk) = false := by simpa using e2
        clear e2
        gi_wp2_with fail
        refine wpIn_quiet_round (by kernel_rfl) (by kernel_rfl) (by kernel_rfl) (fun ⟨_, _, h⟩ => h) ?_
        repeat (first | go_big_quiet_step (fail) | quiet_step (fail))
        refine wpQuiet_nil ?_
        rintro _ ⟨nq, rfl⟩
        gi_wp2_with fail
        all_goals exact ⟨((keeps_drewN _ _).trans (KeepsOthers.setCell _ _ _)).from _, .inl ⟨rfl, HX.out⟩, .inl rfl⟩
  case done =>
    rintro D xs W hD rfl ⟨⟨htn, hn⟩, hg⟩ hK
    obtain ⟨pn, hpn⟩ : ∃ pn : Nat, pn = L.length := ⟨_, rfl⟩
    rw [upF_len (Nat.le_refl _), ← hpn] at htn hn
    have x0 := hn.c
    have y4 := (h4.grown hg (by omega)).c
    have y5 := (h5.grown hg (by omega)).c
    have o6 := h6.grown hg (by omega)
    have y6 := o6.c
    have y6f := o6.f
    have hmin : (pn : Int) = min (L.length : Int) (max 1 many) := by rcases htn with h | h <;> omega
    clear hpn htn
    have BW := HB.out.grown hg (by omega) (fun k e => by cases e; omega)
    have HM := Lib.hid hmin
    clear hmin
    go_wp2_with fail
    all_goals
      have hmin := HM.out
      first
        | rw [show ((pn : Int) == many) = true by simp; omega]
        | rw [show ((pn : Int) == (L.length : Int)) = true by simp; omega]
        | rw [show (pn == L.length) = true by simp; omega]
        | rw [show ((pn : Int) == 1) = true by simp; omega]
        | rw [show (pn == 1) = true by simp; omega]
        | skip
      have o7 := o6.set (.bool true)
      have B2 := BW.setCell (p := ⟨w.heap.size + 1 + 1, 0, none⟩) (by simp; omega) (.bool true)
      have k1 := (KeepsOthers.setCell W ⟨w.heap.size + 1 + 1, 0, none⟩ (.bool true)).same D _ hK rfl
      generalize W.setCell ⟨w.heap.size + 1 + 1, 0, none⟩ (.bool true) = V4 at *
      have o8 : OneB (V4.putObj D (.deferred none)) (w.heap.size + 1 + 1) (.bool true) 4 := (World.putObj_heap_other (by omega)).trans o7
      have B3 := B2.trans (belowK_b (w := w) (Nat.le_refl _) V4 D _ (.deferred none) (by omega) k1 rfl rfl)
      refine ⟨by simp, .inl ⟨_, _, rfl, run_takeDeferred k1, ?_⟩⟩
      have q0 := o8.c
      exact ⟨.bool true, by simp [results, Tryd.results15, go_sem, q0], rfl, B3⟩
  case stop =>
    rintro D c pre W hD ⟨k, hk, hkp⟩ ⟨h1, h2⟩ hK
    rcases h1 with ⟨rfl, h⟩ | ⟨rfl, hp, hm1, hm2⟩
    · exact absurd hkp (h k hk)
    · rcases h2 with h | ⟨hn, hg⟩
      · cases h
      · have hpl : pre.length ≤ L.length := by rw [hkp, upF_len hk]; exact hk
        have x0 := hn.c
        have y4 := (h4.grown hg (by omega)).c
        have y5 := (h5.grown hg (by omega)).c
        have o6 := h6.grown hg (by omega)
        have y6 := o6.c
        have y6f := o6.f
        clear hkp
        generalize pre.length = pn at *
        have hmin : (pn : Int) = min (L.length : Int) (max 1 many) := by rcases hm2 with h | h <;> omega
        have BW := HB.out.grown hg (by omega) (fun k e => by cases e; omega)
        refine wpIn_wide.2 ?_
        have HM := Lib.hid hmin
        clear hmin
        go_wp2_with fail
        all_goals
          have hmin := HM.out
          first
            | rw [show ((pn : Int) == many) = true by simp; omega]
            | rw [show ((pn : Int) == (L.length : Int)) = true by simp; omega]
            | rw [show (pn == L.length) = true by simp; omega]
            | rw [show ((pn : Int) == 1) = true by simp; omega]
            | rw [show (pn == 1) = true by simp; omega]
            | skip
          have o7 := o6.set (.bool true)
          have B2 := BW.setCell (p := ⟨w.heap.size + 1 + 1, 0, none⟩) (by simp; omega) (.bool true)
          have k1 := (KeepsOthers.setCell W ⟨w.heap.size + 1 + 1, 0, none⟩ (.bool true)).same D _ hK rfl
          generalize W.setCell ⟨w.heap.size + 1 + 1, 0, none⟩ (.bool true) = V4 at *
          have o8 : OneB (V4.putObj D (.deferred none)) (w.heap.size + 1 + 1) (.bool true) 4 := (World.putObj_heap_other (by omega)).trans o7
          have B3 := B2.trans (belowK_b (w := w) (Nat.le_refl _) V4 D _ (.deferred none) (by omega) k1 rfl rfl)
          refine ⟨by simp, .inl ⟨_, _, rfl, run_takeDeferred k1, ?_⟩⟩
          have q0 := o8.c
          exact ⟨.bool true, by simp [results, Tryd.results15, go_sem, q0], rfl, B3⟩
end Go.Proofs.YtbacahoihkpkpaaDoor
