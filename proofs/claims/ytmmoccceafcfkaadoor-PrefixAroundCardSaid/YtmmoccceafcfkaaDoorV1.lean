/- One turn of PrefixAround: the range over prefix.Around. (Printed by gen_v1.py.) -/
import Derived.Test.YtmmoccceafcfkaaDoorV0
import Derived.Test.YtmmoccceafcfkaaDoorE3
import Derived.Test.YtmmoccceafcfkaaDoorS1
namespace Go.Proofs.YtmmoccceafcfkaaDoor
open Go.RowKit Go.Shelf
open Go.Sort (grow)

attribute [local go_sem] Oper.semAt_some

noncomputable def rf12 : Code := (Tryd.f12.body.bind firstRF).getD .skip
/-- between two rounds of a turn -/
def aI (L : List (Fin 33)) (many turn : Int) (bn : Nat) (W0 : World) (pre : List (Fin 33)) (W : World) : Prop :=
  ((pre <+: L ∧ (turn = 0 → pre.length = 0 ∨ (pre.length : Int) < many)) ∧ OneB W bn (.int .i64 pre.length) 3) ∧ W0.grownBy W (some bn)
/-- a round has left -/
def aX (L : List (Fin 33)) (many turn : Int) (bn : Nat) (W0 : World) (c : Code) (pre : List (Fin 33)) (W : World) : Prop :=
  ((c = .ret ∧ ¬ pre <+: L) ∨ (c = .exit 2 ∧ turn = 0 ∧ 0 < pre.length ∧ many ≤ pre.length ∧ (pre.length = 1 ∨ (pre.length : Int) ≤ many))) ∧ (c = .ret ∨ (OneB W bn (.int .i64 pre.length) 3 ∧ W0.grownBy W (some bn)))
theorem aI_own (L : List (Fin 33)) (many turn : Int) (bn : Nat) (W0 : World) : OwnFrom W0.heap.size (aI L many turn bn W0) :=
  OwnFrom.and (OwnFrom.and (fun _ _ _ _ hs _ _ => hs) (Own.from (oneB_own bn 3 (fun (pre : List (Fin 33)) => .int .i64 pre.length)) _)) (grown_own W0 bn)
theorem aX_own (L : List (Fin 33)) (many turn : Int) (bn : Nat) (W0 : World) (c : Code) : OwnFrom W0.heap.size (aX L many turn bn W0 c) := fun s X Y row hs hg hr => by
  refine ⟨hs.1, ?_⟩
  rcases hs.2 with h | h
  · exact .inl h
  · exact .inr ⟨Own.from (oneB_own bn 3 (fun (pre : List (Fin 33)) => .int .i64 pre.length)) _ s X Y row h.1 hg hr, grown_own (β := List (Fin 33)) W0 bn s X Y row h.2 hg hr⟩
/-- how a turn ends -/
def ATurn (m : Nat) (many turn : Int) (bn : Nat) (W0 W : World) : Prop :=
  ∃ n : Nat, n ≤ m ∧ (turn = 0 → (n : Int) = min (m : Int) (max 1 many)) ∧ (turn ≠ 0 → n = m) ∧ OneB W bn (.int .i64 n) 3 ∧ W0.grownBy W (some bn)
/-- a prefix in a box -/
def PfB (W : World) (b : Nat) (a n : Int) : Prop := W.heap[b]? = some (.cells #[.int .u32 a, .int .i64 n] 25 (0, 0))
theorem pfB_own {β : Type} (b : Nat) (a n : Int) : Own (fun (_ : β) W => PfB W b a n) := fun s X Y row hs hg hrow =>
  (hg.block b (Array.getElem?_eq_some_iff.1 hs).1 (fun e' => by obtain ⟨o, ho, hc⟩ := hrow b e'.symm; rw [show X.heap[b]? = _ from hs] at ho; cases ho; cases hc)).trans hs
theorem PfB.grown {W W' : World} {b k : Nat} {a n : Int} (h : PfB W b a n) (hg : W.grownBy W' (some k)) (hne : b ≠ k) : PfB W' b a n := (hg.block b (Array.getElem?_eq_some_iff.1 h).1 (fun e => hne (Option.some.inj e))).trans h
theorem PfB.c0 {W : World} {b : Nat} {a n : Int} (h : PfB W b a n) : W.cell? ⟨b, 0, none⟩ = some (.int .u32 a) := by simp [World.cell?, show W.heap[b]? = _ from h]
theorem PfB.c1 {W : World} {b : Nat} {a n : Int} (h : PfB W b a n) : W.cell? ⟨b, 1, none⟩ = some (.int .i64 n) := by simp [World.cell?, show W.heap[b]? = _ from h]
theorem pre_nextA {m : Nat} {pre : List (Fin 33)} {x : Fin 33} (hm : m ≤ 33) (h : pre <+: upto m) (hl : pre.length < m) : pre ++ [x] <+: upto m ↔ x.val = pre.length := by
  have e : (upto m)[pre.length]? = some (Fin.ofNat 33 pre.length) := by
    unfold upto
    rw [List.getElem?_map, List.getElem?_range hl]
    rfl
  have hv : (Fin.ofNat 33 pre.length).val = pre.length := by simp [Fin.ofNat]; omega
  obtain ⟨s, hs⟩ := h
  rw [← hs] at e ⊢
  rw [List.prefix_append_right_inj]
  cases s with
  | nil => simp at e
  | cons y s =>
    simp at e
    subst e
    constructor
    · rintro ⟨t', ht⟩
      simp at ht
      rw [ht.1]
      exact hv
    · intro hx
      have : x = Fin.ofNat 33 pre.length := Fin.ext (hx.trans hv.symm)
      subst this
      exact ⟨s, rfl⟩
theorem cntA_le (pa pn : Int) : cntA pa pn ≤ 33 := by
  unfold cntA
  split
  · next h => have := rightB_len h; omega
  · omega

set_option maxRecDepth 1000000 in
set_option maxHeartbeats 4000000 in
theorem rf12_turn (pa pn : Int) (hpa : 0 ≤ pa) (hpb : pa < 4294967296) (bp bm br ba bt bn Bs : Nat) (many turn : Int) (ds : List Deferred)
    (c0 c1 c2 c4 c7 c12 c13 c14 c15 c16 c17 c18 c19 c20 c21 c22 c23 c24 c25 c26 c27 c28 c29 c30 c31 c32 c33 c34 c35 c36 c37 c38 c39 c40 c41 c42 c43 c44 c45 c46 c47 c48 c49 c50 c51 c52 c53 c54 c55 c56 c57 c58 c59 c60 c61 c62 c63 c64 c65 c67 c68 c69 c70 c71 c72 c73 c74 c75 c76 c77 c78 c79 c80 c81 c82 c83 c84 c85 c86 c87 c88 c89 c90 c91 c92 c93 c94 c95 c96 c97 c98 c99 c100 c101 c102 c103 c104 c105 c106 c107 c108 c109 c110 c111 c112 c113 c114 : Value) (W0 : World) (Q : Exit → Act → World → Prop)
    (n1 : bp ≠ bn) (n3 : bm ≠ bn) (n4 : br ≠ bn) (n5 : ba ≠ bn) (n6 : Bs ≠ bn) (n7 : bt ≠ bn)
    (h1 : PfB W0 bp pa pn) (h3 : OneB W0 bm (.int .i64 many) 3) (h4 : OneB W0 br (.bool false) 4) (h5 : OneB W0 ba (.int .i64 (cntA pa pn)) 3) (h7 : OneB W0 bt (.int .i64 turn) 3) (h8 : OneB W0 bn (.int .i64 0) 3)
    (h6 : W0.heap[Bs]? = some (.cells #[.int .u32 pa, .int .i64 pn] 25))
    (hdone : ∀ (D : Nat) (W : World), W0.heap.size ≤ D → ATurn (cntA pa pn) many turn bn W0 W → W.heap[D]? = some (.deferred (some [])) → Q .normal { tmps := #[c0, c1, c2, .pointer (some ⟨bp, 0, none⟩), c4, .pointer (some ⟨bm, 0, none⟩), .pointer (some ⟨br, 0, none⟩), c7, .pointer (some ⟨ba, 0, none⟩), .func (.func 78) #[] #[.pointer (some ⟨Bs, 0, none⟩)], .pointer (some ⟨bt, 0, none⟩), .pointer (some ⟨bn, 0, none⟩), c12, c13, c14, c15, c16, c17, c18, c19, c20, c21, c22, c23, c24, c25, c26, c27, c28, c29, c30, c31, c32, c33, c34, c35, c36, c37, c38, c39, c40, c41, c42, c43, c44, c45, c46, c47, c48, c49, c50, c51, c52, c53, c54, c55, c56, c57, c58, c59, c60, c61, c62, c63, c64, c65, .func (.func 78) #[] #[.pointer (some ⟨Bs, 0, none⟩)], c67, c68, c69, c70, c71, c72, c73, c74, c75, c76, c77, c78, c79, c80, c81, c82, c83, c84, c85, c86, c87, c88, c89, c90, c91, c92, c93, c94, c95, c96, c97, c98, c99, c100, c101, c102, c103, c104, c105, c106, c107, c108, c109, c110, c111, c112, c113, c114], defers := { target := .collected D, args := #[] } :: ds } W)
    (hbrk : ∀ (D : Nat) (W : World), W0.heap.size ≤ D → ATurn (cntA pa pn) many turn bn W0 W → W.heap[D]? = some (.deferred (some [])) → Q (.exit 2) { tmps := #[c0, c1, c2, .pointer (some ⟨bp, 0, none⟩), c4, .pointer (some ⟨bm, 0, none⟩), .pointer (some ⟨br, 0, none⟩), c7, .pointer (some ⟨ba, 0, none⟩), .func (.func 78) #[] #[.pointer (some ⟨Bs, 0, none⟩)], .pointer (some ⟨bt, 0, none⟩), .pointer (some ⟨bn, 0, none⟩), c12, c13, c14, c15, c16, c17, c18, c19, c20, c21, c22, c23, c24, c25, c26, c27, c28, c29, c30, c31, c32, c33, c34, c35, c36, c37, c38, c39, c40, c41, c42, c43, c44, c45, c46, c47, c48, c49, c50, c51, c52, c53, c54, c55, c56, c57, c58, c59, c60, c61, c62, c63, c64, c65, .func (.func 78) #[] #[.pointer (some ⟨Bs, 0, none⟩)], c67, c68, c69, c70, c71, c72, c73, c74, c75, c76, c77, c78, c79, c80, c81, c82, c83, c84, c85, c86, c87, c88, c89, c90, c91, c92, c93, c94, c95, c96, c97, c98, c99, c100, c101, c102, c103, c104, c105, c106, c107, c108, c109, c110, c111, c112, c113, c114], defers := { target := .collected D, args := #[] } :: ds } W) :
    Code.wp Tryd.prog rf12 Q { tmps := #[c0, c1, c2, .pointer (some ⟨bp, 0, none⟩), c4, .pointer (some ⟨bm, 0, none⟩), .pointer (some ⟨br, 0, none⟩), c7, .pointer (some ⟨ba, 0, none⟩), .func (.func 78) #[] #[.pointer (some ⟨Bs, 0, none⟩)], .pointer (some ⟨bt, 0, none⟩), .pointer (some ⟨bn, 0, none⟩), c12, c13, c14, c15, c16, c17, c18, c19, c20, c21, c22, c23, c24, c25, c26, c27, c28, c29, c30, c31, c32, c33, c34, c35, c36, c37, c38, c39, c40, c41, c42, c43, c44, c45, c46, c47, c48, c49, c50, c51, c52, c53, c54, c55, c56, c57, c58, c59, c60, c61, c62, c63, c64, c65, .func (.func 78) #[] #[.pointer (some ⟨Bs, 0, none⟩)], c67, c68, c69, c70, c71, c72, c73, c74, c75, c76, c77, c78, c79, c80, c81, c82, c83, c84, c85, c86, c87, c88, c89, c90, c91, c92, c93, c94, c95, c96, c97, c98, c99, c100, c101, c102, c103, c104, c105, c106, c107, c108, c109, c110, c111, c112, c113, c114], defers := ds } W0 := by
  have HD := Lib.hid hdone
  have HK := Lib.hid hbrk
  have hcnt := cntA_le pa pn
  have HOfA := Lib.hid (fun (k : Nat) (hk : k ≤ 32) (W : World) (d : Nat) (os : Array Obj) => Calls.regrown_of (w := W) (d := d) (os := os) (rOf_any pa k _ hpa hpb hk))
  have hB0 := h6
  have hL := upto_len (cntA pa pn)
  obtain ⟨L, hLe⟩ : ∃ L, L = upto (cntA pa pn) := ⟨_, rfl⟩
  obtain ⟨m, hme⟩ : ∃ m, m = cntA pa pn := ⟨_, rfl⟩
  have HLe := Lib.hid hLe
  have HMe := Lib.hid hme
  have es := Around_stops (3 - 1) Bs pa pn W0 h6
  rw [← hLe] at es hL
  rw [← hme] at hcnt hL h5 HD HK HLe
  clear hdone hbrk hLe hme
  conv => arg 2; whnf
  refine (wpIn_wide (n := 3)).1 ?_
  have hBl : Bs < W0.heap.size := (Array.getElem?_eq_some_iff.1 h6).1
  refine wpIn_rangeFunc_ownH rfl (by omega) (gf := 78) (lb := #[.pointer (some ⟨Bs, 0, none⟩)]) rfl trivial (enters_of Tryd.func78 (by kernel_rfl) rfl)
    es kpB_t (kpB_b hBl) (Below.refl _ _) (fun _ => rfl)
    (aI L many turn bn W0) (aX L many turn bn W0) (aI_own _ _ _ _ _) (aX_own _ _ _ _ _)
    ⟨⟨⟨List.nil_prefix, fun _ => .inl rfl⟩, h8⟩, ⟨rfl, rfl, rfl, Nat.le_refl _, fun _ _ _ => rfl⟩⟩
    (fun x a' W => ∃ Bx, (W0.heap.size ≤ Bx ∧ a' = { tmps := #[c0, c1, c2, .pointer (some ⟨bp, 0, none⟩), c4, .pointer (some ⟨bm, 0, none⟩), .pointer (some ⟨br, 0, none⟩), c7, .pointer (some ⟨ba, 0, none⟩), .func (.func 78) #[] #[.pointer (some ⟨Bs, 0, none⟩)], .pointer (some ⟨bt, 0, none⟩), .pointer (some ⟨bn, 0, none⟩), .int .i64 x.val, .pointer (some ⟨Bx, 0, none⟩), c14, c15, c16, c17, c18, c19, c20, c21, c22, c23, c24, c25, c26, c27, c28, c29, c30, c31, c32, c33, c34, c35, c36, c37, c38, c39, c40, c41, c42, c43, c44, c45, c46, c47, c48, c49, c50, c51, c52, c53, c54, c55, c56, c57, c58, c59, c60, c61, c62, c63, c64, c65, .func (.func 78) #[] #[.pointer (some ⟨Bs, 0, none⟩)], .int .i64 x.val, .agg #[.int .u32 (andM pa x.val), .int .i64 x.val], c69, c70, c71, c72, c73, c74, c75, c76, c77, c78, c79, c80, c81, c82, c83, c84, c85, c86, c87, c88, c89, c90, c91, c92, c93, c94, c95, c96, c97, c98, c99, c100, c101, c102, c103, c104, c105, c106, c107, c108, c109, c110, c111, c112, c113, c114], defers := [] }) ∧ PfB W Bx (andM pa x.val) x.val)
    (fun x a' s X Y row hs hg hr => by obtain ⟨Bx, h1, h2⟩ := hs; exact ⟨Bx, h1, Own.from (pfB_own (β := Unit) Bx _ _) _ s X Y row h2 hg hr⟩) ?assign ?body ?done ?stop
  case assign =>
    rintro l pre x W K hI hK
    obtain ⟨hI1, hI2⟩ := hI
    have hws := hI2.size
    unfold encA
    gi_wp2_with fail
    exact hK _ _ ((KeepsOthers.alloc _ _).from _) (Below.heap_alloc _ _ Bs (by omega)) ⟨⟨hI1.1, hI1.2.alloc _⟩, grown_alloc hI2 _⟩ ⟨W.heap.size, ⟨hws, rfl⟩, World.alloc_heap_new W _⟩
  case body =>
    rintro l pre x a' W hl' ⟨r, hr⟩ ⟨⟨⟨hpre, htn⟩, hn⟩, hg⟩ ⟨Bx, ⟨hBx, rfl⟩, hRB⟩ hlt
    have z0 := cell_regrown hn.c
    have p0 := cell_regrown (h1.grown hg n1).c0
    have y5 := cell_regrown (h5.grown hg n5).c
    have q0 := cell_regrown hRB.c0
    have q1 := cell_regrown hRB.c1
    have HG := Lib.hid hg
    have HN := Lib.hid hn
    have HPre := Lib.hid hpre
    have HTn := Lib.hid htn
    have hpl := hpre.length_le
    clear hg hn hpre htn hRB
    by_cases e1 : x.val = pre.length
    · by_cases hA : pre.length < m
      · have t1 : decide (m ≤ pre.length) = false := by simp; omega
        have t1' : decide ((m : Int) ≤ (pre.length : Int)) = false := by simp; omega
        have HX := Lib.hid ((pre_nextA hcnt (HLe.out ▸ HPre.out) hA).2 e1)
        rw [← HLe.out] at HX
        have HOf := Lib.hid (HOfA.out pre.length (by omega) W)
        have HSz := Lib.hid (show (pre ++ [x]).length = pre.length + 1 by simp)
        rw [e1] at q0 q1
        have ex : (x.val : Int) = (pre.length : Int) := by omega
        rw [ex]
        have HE1 := Lib.hid e1
        clear e1 ex
        gi_wp2_with fail
        refine wpIn_below_round (by kernel_rfl) (by kernel_rfl) (by kernel_rfl) (fun ⟨_, _, h⟩ => h) ?_
        repeat (first | go_big_quiet_step (with_reducible exact HOf.out _ _) | quiet_step (with_reducible exact HOf.out _ _))
        refine wpQuiet_nil ?_
        intro _ hw'
        obtain ⟨⟨dq, osq⟩, hw''⟩ := hw'
        subst hw''
        have HG1 := Lib.hid (grown_regrown HG.out dq osq)
        have HN1 := Lib.hid (HN.out.below (below_regrown W dq osq))
        have HKe := Lib.hid (keeps_regrown W dq osq)
        have HBs := Lib.hid ((below_regrown W dq osq).block Bs (by have := HG.out.size; omega))
        clear z0 p0 y5 q0 q1
        generalize grow (redrawn W dq) osq = V at *
        have x0 := HN1.out.c
        have x1 := HN1.out.f
        have HN2 := Lib.hid (HN1.out.set (.int .i64 ((pre.length : Int) + 1)))
        have HG2 := Lib.hid (grown_set HG1.out (.int .i64 ((pre.length : Int) + 1)))
        have w3 := (h3.grown HG2.out n3).c
        have w7 := (h7.grown HG2.out n7).c
        have w8 := (h7.grown HG1.out n7).c
        have w9 := (h3.grown HG1.out n3).c
        by_cases e3 : turn = 0
        · have t4 : (turn == 0) = true := by simp [e3]
          have HE3 := Lib.hid e3
          clear e3
          by_cases e4 : many ≤ (pre.length : Int) + 1
          · have t5 : decide (many ≤ (pre.length : Int) + 1) = true := by simp [e4]
            gi_wp2_with fail
            refine ⟨(HKe.out.trans (KeepsOthers.setCell _ _ _)).from _, .inr ⟨rfl, HE3.out, by rw [HSz.out]; omega, by rw [HSz.out]; omega, ?_⟩, .inr ⟨by rw [HSz.out]; exact HN2.out, HG2.out⟩⟩
            rw [HSz.out]
            rcases HTn.out HE3.out with h | h
            · left; omega
            · right; omega
          · have t5 : decide (many ≤ (pre.length : Int) + 1) = false := by simp; omega
            gi_wp2_with fail
            refine ⟨(HKe.out.trans (KeepsOthers.setCell _ _ _)).from _, ?_, ⟨⟨HX.out, fun _ => .inr (by rw [HSz.out]; omega)⟩, by rw [HSz.out]; exact HN2.out⟩, HG2.out⟩
            exact (Below.heap_setCell V _ _ Bs n6).trans HBs.out
        · have t4 : (turn == 0) = false := by simp [e3]
          gi_wp2_with fail
          refine ⟨(HKe.out.trans (KeepsOthers.setCell _ _ _)).from _, ?_, ⟨⟨HX.out, fun h => absurd h e3⟩, by rw [HSz.out]; exact HN2.out⟩, HG2.out⟩
          exact (Below.heap_setCell V _ _ Bs n6).trans HBs.out
      · have t1 : decide (m ≤ pre.length) = true := by simp; omega
        have t1' : decide ((m : Int) ≤ (pre.length : Int)) = true := by simp; omega
        have HX := Lib.hid (show ¬ pre ++ [x] <+: L from fun h => by have := h.length_le; simp at this; omega)
        have y4 := cell_regrown (h4.grown HG.out n4).c
        have y4f := ((h4.grown HG.out n4).below (below_regrown W 0 #[])).f
        have ex : (x.val : Int) = (pre.length : Int) := by omega
        have HOf := HOfA
        rw [ex]
        clear e1 ex
        gi_wp2_with fail
        refine wpIn_below_round (by kernel_rfl) (by kernel_rfl) (by kernel_rfl) (fun ⟨_, _, h⟩ => h) ?_
        repeat (first | go_big_quiet_step (with_reducible exact HOf.out _ _) | quiet_step (with_reducible exact HOf.out _ _))
        refine wpQuiet_nil ?_
        intro _ hw'
        obtain ⟨⟨dq, osq⟩, hw''⟩ := hw'
        subst hw''
        have HKe := Lib.hid (keeps_regrown W dq osq)
        have o4 := (h4.grown HG.out n4).below (below_regrown W dq osq)
        clear z0 p0 y5 q0 q1 y4 y4f
        generalize grow (redrawn W dq) osq = V at *
        have x0 := o4.c
        have x1 := o4.f
        gi_wp2_with fail
        exact ⟨(HKe.out.trans (KeepsOthers.setCell _ _ _)).from _, .inl ⟨rfl, HX.out⟩, .inl rfl⟩
    · have HX := Lib.hid (show ¬ pre ++ [x] <+: L from fun h => by
        rw [HLe.out] at h
        have hl := h.length_le
        rw [upto_len] at hl
        simp at hl
        exact e1 ((pre_nextA hcnt (HLe.out ▸ HPre.out) (by omega)).1 h))
      have t1 : ((x.val : Int) != (pre.length : Int)) = true := by simp; omega
      have t2 : (x.val != pre.length) = true := by simpa using e1
      have HOf := HOfA
      clear e1
      gi_wp2_with fail
      refine wpIn_below_round (by kernel_rfl) (by kernel_rfl) (by kernel_rfl) (fun ⟨_, _, h⟩ => h) ?_
      repeat (first | go_big_quiet_step (with_reducible exact HOf.out _ _) | quiet_step (with_reducible exact HOf.out _ _))
      refine wpQuiet_nil ?_
      intro _ hw'
      obtain ⟨⟨dq, osq⟩, hw''⟩ := hw'
      subst hw''
      have HKe := Lib.hid (keeps_regrown W dq osq)
      have o4 := (h4.grown HG.out n4).below (below_regrown W dq osq)
      clear z0 p0 y5 q0 q1
      generalize grow (redrawn W dq) osq = V at *
      have x0 := o4.c
      have x1 := o4.f
      gi_wp2_with fail
      exact ⟨(HKe.out.trans (KeepsOthers.setCell _ _ _)).from _, .inl ⟨rfl, HX.out⟩, .inl rfl⟩
  case done =>
    rintro D xs W hD rfl ⟨⟨⟨hpre, htn⟩, hn⟩, hg⟩ hK
    refine HD.out D W hD ⟨_, Nat.le_of_eq hL, fun h0 => ?_, fun _ => hL, hn, hg⟩ hK
    rcases htn h0 with h | h
    · omega
    · omega
  case stop =>
    rintro D c pre W hD hS ⟨h1, h2⟩ hK
    rcases h1 with ⟨rfl, h⟩ | ⟨rfl, h0, hp, hm1, hm2⟩
    · exact absurd hS h
    · rcases h2 with h | ⟨hn, hg⟩
      · cases h
      · gi_wp2_with fail
        have hle := hS.length_le
        refine HK.out D W hD ⟨pre.length, by omega, fun _ => ?_, fun h => absurd h0 h, hn, hg⟩ hK
        omega
end Go.Proofs.YtmmoccceafcfkaaDoor
