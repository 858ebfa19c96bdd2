/- The walk of PrefixAround. (Printed by gen_v2.py.) -/
import Derived.Test.YtmmoccceafcfkaaDoorV1
import Derived.Test.YtmmoccceafcfkaaDoorS11
import Derived.Test.YtmmoccceafcfkaaDoorQ2
import Derived.Test.YtmmoccceafcfkaaDoorD6
namespace Go.Proofs.YtmmoccceafcfkaaDoor
open Go.RowKit Go.Shelf Go.Maps
open Go.Sort (grow)

attribute [local go_sem] Oper.semAt_some

theorem KL.snoc {W : World} {base : Option Addr} {g : Nat} {K : List Pf} {x : Pf} (h : KL W base g (K ++ [x])) : KL W base g K ∧ base = some ⟨g, 0, none⟩ ∧ W.cell? ⟨g, K.length * 2, none⟩ = some (.int .u32 x.1) ∧ W.cell? ⟨g, K.length * 2 + 1, none⟩ = some (.int .i64 x.2) := by
  refine ⟨?_, h.row K.length x (by simp)⟩
  have := h.take K.length
  rwa [List.take_left'] at this
  rfl
/-- behind the first four regions -/
structure AS (w W : World) (pa pn many : Int) : Prop where
  p : PfB W w.heap.size pa pn
  m : OneB W (w.heap.size + 1) (.int .i64 many) 3
  r : OneB W (w.heap.size + 1 + 1) (.bool false) 4
  b : Below w.heap.size w W
theorem AS.below {w W W' : World} {pa pn many : Int} (h : AS w W pa pn many) (hb : Below W.heap.size W W') : AS w W' pa pn many :=
  ⟨(hb.block _ (Array.getElem?_eq_some_iff.1 h.p).1).trans h.p, h.m.below hb, h.r.below hb, bthen h.b hb⟩
theorem AS.first (w : World) (pa pn many : Int) : AS w (((w.alloc (.cells #[.int .u32 pa, .int .i64 pn] 25)).alloc (.cells #[.int .i64 many] 3)).alloc (.cells #[.bool false] 4)) pa pn many where
  p := by
    have h0 : PfB (w.alloc (.cells #[.int .u32 pa, .int .i64 pn] 25)) w.heap.size pa pn := World.alloc_heap_new w _
    have hb : Below (w.alloc (.cells #[.int .u32 pa, .int .i64 pn] 25)).heap.size (w.alloc (.cells #[.int .u32 pa, .int .i64 pn] 25)) (((w.alloc (.cells #[.int .u32 pa, .int .i64 pn] 25)).alloc (.cells #[.int .i64 many] 3)).alloc (.cells #[.bool false] 4)) := ((Below.refl _ _).alloc (Nat.le_refl _) _).alloc (by simp) _
    exact (hb.block _ (Array.getElem?_eq_some_iff.1 h0).1).trans h0
  m := by
    have := (OneB.new (w.alloc (.cells #[.int .u32 pa, .int .i64 pn] 25)) (.int .i64 many) 3).alloc (.cells #[.bool false] 4)
    simpa using this
  r := by
    have := OneB.new ((w.alloc (.cells #[.int .u32 pa, .int .i64 pn] 25)).alloc (.cells #[.int .i64 many] 3)) (.bool false) 4
    simpa using this
  b := (((Below.refl _ w).alloc (Nat.le_refl _) _).alloc (by simp) _).alloc (by simp; omega) _
theorem AS.put {w W : World} {pa pn many : Int} (h : AS w W pa pn many) {b : Nat} (hb : w.heap.size + 1 + 1 < b) (v : Value) : AS w (W.setCell ⟨b, 0, none⟩ v) pa pn many :=
  ⟨(Below.heap_setCell W _ v _ (by intro e; have e : w.heap.size = b := e; omega)).trans h.p, h.m.other (by omega), h.r.other (by omega), h.b.setCell (p := ⟨b, 0, none⟩) (by show w.heap.size ≤ b; omega) v⟩
theorem AS.grown {w W W' : World} {pa pn many : Int} (h : AS w W pa pn many) {k : Nat} (hg : W.grownBy W' (some k)) (hk : w.heap.size + 1 + 1 < k) : AS w W' pa pn many :=
  ⟨h.p.grown hg (by omega), h.m.grown hg (by omega), h.r.grown hg (by omega), h.b.grown hg (by have := h.b.size; omega) (fun j e => by cases e; omega)⟩
set_option maxRecDepth 1000000 in
set_option maxHeartbeats 8000000 in
theorem PAround_long (pa pn many : Int) (base : Option Addr) (n cap : Nat) (w : World) (hn : 20 < n) (hn2 : n ≤ 9223372036854775807) (hR : RelsAt w) :
    Calls Tryd.prog 12 #[.agg #[.int .u32 pa, .int .i64 pn], .slice base n cap, .int .i64 many] w fun e w' => e = .returned (.bool true) ∧ Below w.heap.size w w' := by
  have H0 := Lib.hid (AS.first w pa pn many)
  have HR := Lib.hid hR
  have t1 : decide ((20 : Int) < (n : Int)) = true := by simp; omega
  have t2 : (20 : Int) < (n : Int) := by omega
  clear hR
  go_enter Tryd.func12, Tryd.ntmps12
  go_upto_region 1 with fail
  generalize ((w.alloc (.cells #[.int .u32 pa, .int .i64 pn] 25)).alloc (.cells #[.int .i64 many] 3)).alloc (.cells #[.bool false] 4) = W1 at *
  have HW := Lib.hid (works2 W1 (HR.out.below H0.out.b))
  go_upto_region 2 with fail
  have y0 := H0.out.r.c
  go_wp2_with (go_at_call 24; (with_reducible refine HW.out.mono ?_); rintro e w1 ⟨rfl, hb1⟩; have H1 := Lib.hid (H0.out.below hb1); clear y0 hb1; have y0 := H1.out.r.c; have y1 := H1.out.r.f)
  have o5 := H1.out.r.set (.bool true)
  have hB := H1.out.b.setCell (p := ⟨w.heap.size + 1 + 1, 0, none⟩) (by simp; omega) (.bool true)
  generalize w1.setCell ⟨w.heap.size + 1 + 1, 0, none⟩ (.bool true) = V4 at *
  have q0 := o5.c
  exact bodyPost_ret (v := .bool true) (by simp [results, Tryd.results12, go_sem, q0]) rfl ⟨rfl, hB⟩
theorem row_cap {W : World} {B n cap g : Nat} {e : TypeId} {xs : List Value} {size : Nat} (h : W.ownsRow B e size (.slice (some ⟨g, 0, none⟩) n cap) n xs) : n ≤ cap := by
  rcases h.2 with ⟨h0, _⟩ | ⟨g', cap', cur, hv, hb, hc, h1, _⟩
  · cases h0
  · cases hv; exact h1
/-- the plain way alone -/
def NrmV (Q : Exit → Act → World → Prop) : Exit → Act → World → Prop := fun e a w => match e with
  | .normal => Q .normal a w
  | _ => False
theorem nrmV_intro {Q : Exit → Act → World → Prop} {a : Act} {w : World} (h : Q .normal a w) : NrmV Q .normal a w := h
theorem wp_nrmV {P : Program} {c : Code} {Q : Exit → Act → World → Prop} {a : Act} {w : World} (h : c.wp P (NrmV Q) a w) : c.wp P Q a w :=
  Code.wp_mono (by
    intro e a w h
    cases e <;> first | exact h | exact h.elim) h
set_option maxRecDepth 1000000 in
set_option maxHeartbeats 8000000 in
theorem PAround_walk (pa pn many : Int) (hpa : 0 ≤ pa) (hpb : pa < 4294967296) (base : Option Addr) (g o cap : Nat) (K : List Pf) (w : World) (hS : KO w base g o K) (hl : K.length ≤ 20) (hR : RelsAt w) :
    Calls Tryd.prog 12 #[.agg #[.int .u32 pa, .int .i64 pn], .slice base K.length cap, .int .i64 many] w fun e w' => e = .returned (.bool true) ∧ Below w.heap.size w w' := by
  have hnf : ∀ (b : Nat) (W : World), (binOp .eql 91 (.func (.func 78) #[] #[.pointer (some ⟨b, 0, none⟩)]) .nilFunc).run Tryd.prog W = .ok (.bool false) W := fun _ _ => by kernel_rfl
  have H0 := Lib.hid (AS.first w pa pn many)
  have HR := Lib.hid hR
  have HS := Lib.hid hS
  obtain ⟨i0, hii, hz0, hz1, hz2⟩ := info_parts info25
  have t1 : decide ((20 : Int) < (K.length : Int)) = false := by simp; omega
  have t2 : ¬ (20 : Int) < (K.length : Int) := by omega
  have hgw : g < w.heap.size := hS.lt
  clear hR hS
  refine (callsIn_wide (n := 3)).1 ?_
  refine callsIn_of_wp_marks Tryd.func12 rfl trivial ?_ rfl
  simp only [Tryd.ntmps12, List.size_toArray, List.length_cons, List.length_nil, Nat.reduceAdd, Nat.reduceSub, Array.replicate_succ, Array.replicate_zero, List.push_toArray, List.append_toArray, List.nil_append, List.cons_append]
  refine wpIn_wide.2 ?_
  go_upto_region 1 with fail
  obtain ⟨W1, hW1⟩ : ∃ W, W = ((w.alloc (.cells #[.int .u32 pa, .int .i64 pn] 25)).alloc (.cells #[.int .i64 many] 3)).alloc (.cells #[.bool false] 4) := ⟨_, rfl⟩
  rw [← hW1] at H0 ⊢
  clear hW1
  go_upto_region 3 with fail
  go_cut [7] from 14 to 114 (fun v7 wx => ∃ (g2 c2 : Nat), v7 = .slice (some ⟨g2, 0, none⟩) K.length c2 ∧ K.length + 1 ≤ c2 ∧ Hid (KL wx (some ⟨g2, 0, none⟩) g2 (K ++ [(pa, pn)])) ∧ Hid (KO wx base g o K) ∧ Hid (AS w wx pa pn many))
  case first => as_aux_lemma =>
    have d0 := H0.out.p.c0
    have d1 := H0.out.p.c1
    have hS1 := HS.out.below H0.out.b
    have One1 := Lib.hid (kCs_one K)
    have One2 := Lib.hid (kC_one (pa, pn))
    have k1 : (0 : Int) ≤ (K.length : Int) := by omega
    have S1 := Lib.hid (show ∀ W', Below W1.heap.size W1 W' → Src W' base K.length 2 (kCs K) from fun W' h => (hS1.below h).src)
    have HS1 := Lib.hid hS1
    clear hS1
    have BA : Below W1.heap.size W1 (W1.alloc (.cells #[] 25)).drew := ((Below.refl _ W1).alloc (Nat.le_refl _) _).drew
    have BB : Below W1.heap.size W1 ((W1.alloc (.cells #[] 25)).alloc (.cells #[.int .u32 pa, .int .i64 pn] 25)).drew := (((Below.refl _ W1).alloc (Nat.le_refl _) _).alloc (by simp) _).drew
    have BC : Below W1.heap.size W1 ((W1.alloc (.cells #[.int .u32 pa, .int .i64 pn] 25)).alloc (.cells #[] 25)).drew := (((Below.refl _ W1).alloc (Nat.le_refl _) _).alloc (by simp) _).drew
    have RA0 : (W1.alloc (.cells #[] 25)).ownsRow W1.heap.size 25 2 (.slice (some ⟨W1.heap.size, 0, none⟩) 0 0) 0 [] := World.ownsRow_made W1 #[] 0 (Nat.le_refl _) (by unfold maxLen; omega) rfl
    have RA : (W1.alloc (.cells #[] 25)).drew.ownsRow W1.heap.size 25 2 (.slice (some ⟨W1.heap.size, 0, none⟩) 0 0) 0 [] := RA0
    have RB : ((W1.alloc (.cells #[] 25)).alloc (.cells #[.int .u32 pa, .int .i64 pn] 25)).drew.ownsRow W1.heap.size 25 2 (.slice (some ⟨W1.heap.size, 0, none⟩) 0 0) 0 [] := RA0.alloc _
    have RC : ((W1.alloc (.cells #[.int .u32 pa, .int .i64 pn] 25)).alloc (.cells #[] 25)).drew.ownsRow W1.heap.size 25 2 (.slice (some ⟨W1.heap.size + 1, 0, none⟩) 0 0) 0 [] := by
      have := World.ownsRow_made (base := W1.heap.size) (e := 25) (size := 2) (W1.alloc (.cells #[.int .u32 pa, .int .i64 pn] 25)) #[] 0 (by simp) (by unfold maxLen; omega) rfl
      rw [World.size_alloc] at this
      exact this
    clear RA0
    have HA3 := Lib.hid BA; have HB3 := Lib.hid BB; have HC3 := Lib.hid BC; have GA3 := Lib.hid RA; have GB3 := Lib.hid RB; have GC3 := Lib.hid RC
    clear BA BB BC RA RB RC
    have CB := Lib.hid (show Src ((W1.alloc (.cells #[] 25)).alloc (.cells #[.int .u32 pa, .int .i64 pn] 25)).drew (some ⟨W1.heap.size + 1, 0, none⟩) 1 2 (kC (pa, pn)) by
      have := src_new (W1.alloc (.cells #[] 25)) #[.int .u32 pa, .int .i64 pn] 25 2 rfl
      rw [World.size_alloc] at this
      exact this)
    have CC := Lib.hid (show Src ((W1.alloc (.cells #[.int .u32 pa, .int .i64 pn] 25)).alloc (.cells #[] 25)).drew (some ⟨W1.heap.size, 0, none⟩) 1 2 (kC (pa, pn)) from (src_new W1 #[.int .u32 pa, .int .i64 pn] 25 2 rfl).below (((Below.refl _ _).alloc (Nat.le_refl _) _).drew))
    refine wp_nrmV ?_
    go_region_held3 (fun w' => w'.cell? ⟨w.heap.size, 0, none⟩ = some (.int .u32 pa) ∧ w'.cell? ⟨w.heap.size, 1, none⟩ = some (.int .i64 pn))
      (first | exact ⟨cellL hB d0, cellL hB d1⟩ | go_keep)
      (first
        | (refine step_append_src _ (by rfl) _ _ _ (by rfl) W1.heap.size 25 i0 _ 2 16 Tryd.underlying86 hii hz0 hz1 hz2 rfl (by omega) (.slice (some ⟨W1.heap.size, 0, none⟩) 0 0) 0 [] (by rfl) GA3.out (by simp) base K.length cap (kCs K) (by rfl) (S1.out _ HA3.out) One1.out K.length (by omega) (kCs K) (by rfl) (by unfold maxLen; omega) (by omega) HA3.out.size ?_; intro g1 c1 w7 hown1 hgrow1 hg1 hat1; have hB := HA3.out.grown hgrow1 HA3.out.size (fun k e => by simp [Value.ownBlock] at e; omega); have HO1 := Lib.hid hown1; have HG1 := Lib.hid hg1; clear hown1 hgrow1 hat1 hg1)
        | (refine step_append_src _ (by rfl) _ _ _ (by rfl) W1.heap.size 25 i0 _ 2 16 Tryd.underlying86 hii hz0 hz1 hz2 rfl (by omega) (.slice (some ⟨W1.heap.size, 0, none⟩) 0 0) 0 [] (by rfl) GB3.out (by simp) base K.length cap (kCs K) (by rfl) (S1.out _ HB3.out) One1.out K.length (by omega) (kCs K) (by rfl) (by unfold maxLen; omega) (by omega) HB3.out.size ?_; intro g1 c1 w7 hown1 hgrow1 hg1 hat1; have hB := HB3.out.grown hgrow1 HB3.out.size (fun k e => by simp [Value.ownBlock] at e; omega); have HO1 := Lib.hid hown1; have HG1 := Lib.hid hg1; have HXC := Lib.hid (CB.out.grown hgrow1 (fun e => by simp [Value.ownBlock] at e)); clear hown1 hgrow1 hat1 hg1)
        | (refine step_append_src _ (by rfl) _ _ _ (by rfl) W1.heap.size 25 i0 _ 2 16 Tryd.underlying86 hii hz0 hz1 hz2 rfl (by omega) (.slice (some ⟨W1.heap.size + 1, 0, none⟩) 0 0) 0 [] (by rfl) GC3.out (by simp) base K.length cap (kCs K) (by rfl) (S1.out _ HC3.out) One1.out K.length (by omega) (kCs K) (by rfl) (by unfold maxLen; omega) (by omega) HC3.out.size ?_; intro g1 c1 w7 hown1 hgrow1 hg1 hat1; have hB := HC3.out.grown hgrow1 HC3.out.size (fun k e => by simp [Value.ownBlock] at e; omega); have HO1 := Lib.hid hown1; have HG1 := Lib.hid hg1; have HXC := Lib.hid (CC.out.grown hgrow1 (fun e => by simp [Value.ownBlock] at e)); clear hown1 hgrow1 hat1 hg1)
        | (refine step_append_src (w7.alloc (.cells #[.int .u32 pa, .int .i64 pn] 25)) (by rfl) _ _ _ (by rfl) W1.heap.size 25 i0 _ 2 16 Tryd.underlying86 hii hz0 hz1 hz2 rfl (by omega) (.slice (some ⟨g1, 0, none⟩) K.length c1) K.length (kCs K) (by rfl) (HO1.out.alloc _) (by simp) (some ⟨w7.heap.size, 0, none⟩) 1 1 (kC (pa, pn)) (by rfl) (src_new w7 #[.int .u32 pa, .int .i64 pn] 25 2 rfl) One2.out (K.length + 1) (by omega) (kCs K ++ kC (pa, pn)) (by rfl) (by unfold maxLen; omega) (by omega) (bthen hB ((Below.refl _ w7).alloc (Nat.le_refl _) (.cells #[.int .u32 pa, .int .i64 pn] 25))).size ?_; intro g2 c2 w8 hown2 hgrow2 hg2 hat2; have hB2 := (bthen hB ((Below.refl _ w7).alloc (Nat.le_refl _) (.cells #[.int .u32 pa, .int .i64 pn] 25))).grown hgrow2 (bthen hB ((Below.refl _ w7).alloc (Nat.le_refl _) (.cells #[.int .u32 pa, .int .i64 pn] 25))).size (fun k e => by simp [Value.ownBlock] at e; have := HG1.out; omega); have hB := hB2; have hcap2 := row_cap hown2; have hcz : (K.length : Int) ≤ (c2 : Int) := (by omega); have HO2 := Lib.hid hown2; have HG2 := Lib.hid hg2; clear hown2 hgrow2 hat2 hg2 hB2)
        | (refine step_append_src w7 (by rfl) _ _ _ (by rfl) W1.heap.size 25 i0 _ 2 16 Tryd.underlying86 hii hz0 hz1 hz2 rfl (by omega) (.slice (some ⟨g1, 0, none⟩) K.length c1) K.length (kCs K) (by rfl) HO1.out (by simp) (some ⟨W1.heap.size + 1, 0, none⟩) 1 1 (kC (pa, pn)) (by rfl) HXC.out One2.out (K.length + 1) (by omega) (kCs K ++ kC (pa, pn)) (by rfl) (by unfold maxLen; omega) (by omega) hB.size ?_; intro g2 c2 w8 hown2 hgrow2 hg2 hat2; have hB2 := hB.grown hgrow2 hB.size (fun k e => by simp [Value.ownBlock] at e; have := HG1.out; omega); have hB := hB2; have hcap2 := row_cap hown2; have hcz : (K.length : Int) ≤ (c2 : Int) := (by omega); have HO2 := Lib.hid hown2; have HG2 := Lib.hid hg2; clear hown2 hgrow2 hat2 hg2 hB2)
        | (refine step_append_src w7 (by rfl) _ _ _ (by rfl) W1.heap.size 25 i0 _ 2 16 Tryd.underlying86 hii hz0 hz1 hz2 rfl (by omega) (.slice (some ⟨g1, 0, none⟩) K.length c1) K.length (kCs K) (by rfl) HO1.out (by simp) (some ⟨W1.heap.size, 0, none⟩) 1 1 (kC (pa, pn)) (by rfl) HXC.out One2.out (K.length + 1) (by omega) (kCs K ++ kC (pa, pn)) (by rfl) (by unfold maxLen; omega) (by omega) hB.size ?_; intro g2 c2 w8 hown2 hgrow2 hg2 hat2; have hB2 := hB.grown hgrow2 hB.size (fun k e => by simp [Value.ownBlock] at e; have := HG1.out; omega); have hB := hB2; have hcap2 := row_cap hown2; have hcz : (K.length : Int) ≤ (c2 : Int) := (by omega); have HO2 := Lib.hid hown2; have HG2 := Lib.hid hg2; clear hown2 hgrow2 hat2 hg2 hB2))
    all_goals
      refine nrmV_intro ?_
      have HBw := Lib.hid hB
      clear hB d0 d1
      go_wp2_with fail
      go_meet
      have hrow := HO2.out
      have e1 : kCs K ++ kC (pa, pn) = kCs (K ++ [(pa, pn)]) := by rw [kCs_app]; simp [kCs]
      have e2 : K.length + 1 = (K ++ [(pa, pn)]).length := by simp
      rw [e1, e2] at hrow
      obtain ⟨b2, gg, cc, hv, hkl, hle, _⟩ := kl_of_row hrow (by have := HBw.out.size; have := HS1.out.lt; omega)
      cases hv
      have hb2 := (hkl.row K.length (pa, pn) (by simp)).1
      cases hb2
      exact ⟨_, _, rfl, by simpa using hle, hkl, HS1.out.below HBw.out, H0.out.below HBw.out⟩
  case rest =>
  obtain ⟨g2, c2, rfl, hc2, HC2, HK2, HA2⟩ := hcut
  clear H0 HS
  go_upto_region 4 with fail
  go_cut [51] from 27 to 114 (fun v51 wx => v51 = .bool false ∧ Hid (AS w wx pa pn many))
  case first => as_aux_lemma =>
    have HSn := Lib.hid (KL.snoc HC2.out)
    have HP := Lib.hid (show ∀ W', Below wc.heap.size wc W' → W'.cell? ⟨w.heap.size, 0, none⟩ = some (.int .u32 pa) ∧ W'.cell? ⟨w.heap.size, 1, none⟩ = some (.int .i64 pn) ∧ W'.cell? ⟨g2, K.length * 2, none⟩ = some (.int .u32 pa) ∧ W'.cell? ⟨g2, K.length * 2 + 1, none⟩ = some (.int .i64 pn) from
      fun W' h => ⟨cellL h HA2.out.p.c0, cellL h HA2.out.p.c1, cellL h HSn.out.2.2.1, cellL h HSn.out.2.2.2⟩)
    have F53 := Lib.hid (fun W' (h : Below wc.heap.size wc W') => Sort_any ⟨g2, 0, none⟩ g2 c2 K W' (HSn.out.1.below h) (by omega))
    have F54 := Lib.hid (fun W' (h : Below wc.heap.size wc W') => rSort_any base g o cap K W' (HK2.out.below h) (by omega))
    have F52 := Lib.hid (fun W' (h : Below wc.heap.size wc W') => rSame_true (some ⟨g2, 0, none⟩) base g2 c2 g o cap K W' (HSn.out.1.below h) (HK2.out.below h) (by omega))
    have HVd := Lib.hid ((Below.refl wc.heap.size wc).drew)
    obtain ⟨e0, e1, e2, e3⟩ := HP.out _ (Below.refl _ _)
    have j0 : (0 : Int) ≤ (K.length : Int) := by omega
    have j1 : (K.length : Int) + 1 ≤ (c2 : Int) := by omega
    have j2 : (0 : Int) ≤ (K.length : Int) + 1 := by omega
    have j3 : (K.length : Int) < (K.length : Int) + 1 := by omega
    have j4 : ((K.length : Int) + 1).toNat = K.length + 1 := by omega
    have j5 : IntKind.i64.wrap ((K.length : Int) + 1) = (K.length : Int) + 1 := by rw [IntKind.wrap_i64]; omega
    refine wp_nrmV ?_
    go_region_held3 (fun w' => w'.cell? ⟨w.heap.size, 0, none⟩ = some (.int .u32 pa) ∧ w'.cell? ⟨w.heap.size, 1, none⟩ = some (.int .i64 pn) ∧ w'.cell? ⟨g2, K.length * 2, none⟩ = some (.int .u32 pa) ∧ w'.cell? ⟨g2, K.length * 2 + 1, none⟩ = some (.int .i64 pn))
      (first | exact ⟨e0, e1, e2, e3⟩ | go_keep)
      (first
        | (go_at_call 53; with_reducible refine (F53.out _ HVd.out).mono ?_; rintro e w3 ⟨v1, M1, rfl, hk1, ho1, hm1, hb⟩; obtain ⟨b1, q1, k1, rfl, hkl1, hle1⟩ := hk1.ex; have HK1 := Lib.hid hkl1; have HO1 := Lib.hid ho1; have HM1 := Lib.hid hm1; clear hk1 ho1 hm1 hkl1; have HVd := Lib.hid (bthen HVd.out hb); clear e0 e1 e2 e3; obtain ⟨e0, e1, e2, e3⟩ := HP.out _ HVd.out; clear hb)
        | (go_at_call 54; with_reducible refine (F54.out _ HVd.out).mono ?_; rintro e w4 ⟨v2, M2, rfl, hk2, ho2, hm2, hml, hb⟩; obtain rfl := ordP_ext ho2 HO1.out (fun x => (by rw [hm2, HM1.out])); obtain ⟨b2, q2, k2, rfl, hkl2, hle2⟩ := hk2.ex; have HK3 := Lib.hid hkl2; have HK1 := Lib.hid (HK1.out.below hb); have HSm := Lib.hid (fun W' (h : Below w4.heap.size w4 W') => rSame_true b1 b2 q1 k1 q2 0 k2 _ W' (HK1.out.below h) (HK3.out.ko.below h) (by omega)); have HV4 := Lib.hid (Below.refl w4.heap.size w4); clear hk2 ho2 hm2 hkl2; have HVd := Lib.hid (bthen HVd.out hb); clear e0 e1 e2 e3; obtain ⟨e0, e1, e2, e3⟩ := HP.out _ HVd.out; clear hb)
        | (go_at_call 52; with_reducible refine (HSm.out _ HV4.out).mono ?_; rintro e w5 ⟨rfl, hb⟩; have HVd := Lib.hid (bthen HVd.out hb); clear e0 e1 e2 e3; obtain ⟨e0, e1, e2, e3⟩ := HP.out _ HVd.out; clear hb)
        | (go_at_call 52; with_reducible refine (F52.out _ HVd.out).mono ?_; rintro e w6 ⟨rfl, hb⟩; have HVd := Lib.hid (bthen HVd.out hb); clear e0 e1 e2 e3; obtain ⟨e0, e1, e2, e3⟩ := HP.out _ HVd.out; clear hb))
    all_goals
      refine nrmV_intro ?_
      clear e0 e1 e2 e3
      go_wp2_with fail
      go_meet
      exact ⟨rfl, HA2.out.below HVd.out⟩
  case rest =>
  obtain ⟨rfl, HA⟩ := hcut
  clear HA2 HC2 HK2 hc2
  have d1 := HA.out.p.c1
  have hbl := HA.out.r.lt
  obtain ⟨qn, hqn⟩ : ∃ q, IntKind.i64.wrap (pn + 1) = q := ⟨_, rfl⟩
  go_upto_region 7 with fail
  have HA3 := Lib.hid (HA.out.below ((Below.refl _ wc).alloc (Nat.le_refl _) (.cells #[.int .i64 qn] 3)))
  have HB3 := Lib.hid (OneB.new wc (.int .i64 qn) 3)
  generalize wc.alloc (.cells #[.int .i64 qn] 3) = W3 at *
  obtain ⟨ba, hba⟩ : ∃ ba, ba = wc.heap.size := ⟨_, rfl⟩
  rw [← hba] at HB3 hbl ⊢
  have HQ := Lib.hid hqn
  clear hba d1 HA hqn
  have p0 := HA3.out.p.c0
  have p1 := HA3.out.p.c1
  have F19 := Lib.hid (fun W => rRight_any pa pn W hpa hpb)
  obtain ⟨rb, hrb⟩ : ∃ rb, rightB pa pn = rb := ⟨_, rfl⟩
  rw [hrb] at F19
  have HRb := Lib.hid hrb
  clear hrb
  go_upto_if 57 with (go_at_call 19; (with_reducible refine (F19.out _).mono ?_); rintro e w4 ⟨rfl, hb⟩; have HA4 := Lib.hid (HA3.out.below hb); have HB4 := Lib.hid (HB3.out.below hb); clear hb)
  clear p0 p1 HA3 HB3
  go_cut [] from 58 to 114 (fun wx => Hid (OneB wx ba (.int .i64 (cntA pa pn)) 3) ∧ Hid (AS w wx pa pn many))
  case first => as_aux_lemma =>
    have x0 := HB4.out.c
    have x1 := HB4.out.f
    cases rb with
    | false =>
      have hr := HRb.out
      have e : ((cntA pa pn : Nat) : Int) = 0 := by simp [cntA, hr]
      go_wp2_with fail
      go_meet
      refine ⟨?_, HA4.out.put hbl _⟩
      show OneB _ ba (.int .i64 ((cntA pa pn : Nat) : Int)) 3
      rw [e]
      exact HB4.out.set _
    | true =>
      have hr := HRb.out
      have hl32 := rightB_len hr
      have e : ((cntA pa pn : Nat) : Int) = qn := by
        rw [← HQ.out, IntKind.wrap_i64]
        simp only [cntA, hr, if_true]
        omega
      go_wp2_with fail
      go_meet
      refine ⟨?_, HA4⟩
      show OneB _ ba (.int .i64 ((cntA pa pn : Nat) : Int)) 3
      rw [e]
      exact HB4.out
  case rest =>
  obtain ⟨HB5, HA5⟩ := hcut
  clear HA4 HB4 HRb F19
  have p0 := HA5.out.p.c0
  have p1 := HA5.out.p.c1
  have hX := HA5.out.r.lt
  have hXb := HB5.out.lt
  go_upto_region 12 with (go_at_call 55; (with_reducible refine (Around_any pa pn _).mono ?_); rintro e w6 ⟨rfl, rfl⟩)
  clear p0 p1
  have B1 : Below wc.heap.size wc ((wc.alloc (.cells #[.int .u32 pa, .int .i64 pn] 25)).alloc (.cells #[.int .i64 0] 3)) := ((Below.refl _ _).alloc (Nat.le_refl _) _).alloc (by simp) _
  have S1 : (wc.alloc (.cells #[.int .u32 pa, .int .i64 pn] 25)).heap[wc.heap.size]? = some (.cells #[.int .u32 pa, .int .i64 pn] 25) := World.alloc_heap_new wc _
  go_wp2_with fail
  refine wp_loop_rounds 3 ?_
  rw [rounds_succ]
  go_wp2_with fail
  have B2 : Below wc.heap.size wc (((wc.alloc (.cells #[.int .u32 pa, .int .i64 pn] 25)).alloc (.cells #[.int .i64 0] 3)).alloc (.cells #[.int .i64 0] 3)) := B1.alloc (by simp; omega) _
  have hsz : (((wc.alloc (.cells #[.int .u32 pa, .int .i64 pn] 25)).alloc (.cells #[.int .i64 0] 3)).alloc (.cells #[.int .i64 0] 3)).heap.size = wc.heap.size + 1 + 1 + 1 := by simp
  have S2 : (((wc.alloc (.cells #[.int .u32 pa, .int .i64 pn] 25)).alloc (.cells #[.int .i64 0] 3)).alloc (.cells #[.int .i64 0] 3)).heap[wc.heap.size]? = some (.cells #[.int .u32 pa, .int .i64 pn] 25) :=
    ((((Below.refl _ (wc.alloc (.cells #[.int .u32 pa, .int .i64 pn] 25))).alloc (Nat.le_refl _) (.cells #[.int .i64 0] 3)).alloc (by simp) (.cells #[.int .i64 0] 3)).block wc.heap.size (by simp)).trans S1
  have bt0 : OneB (((wc.alloc (.cells #[.int .u32 pa, .int .i64 pn] 25)).alloc (.cells #[.int .i64 0] 3)).alloc (.cells #[.int .i64 0] 3)) (wc.heap.size + 1) (.int .i64 0) 3 := by
    have := (OneB.new (wc.alloc (.cells #[.int .u32 pa, .int .i64 pn] 25)) (.int .i64 0) 3).alloc (.cells #[.int .i64 0] 3)
    simpa using this
  have bn0 : OneB (((wc.alloc (.cells #[.int .u32 pa, .int .i64 pn] 25)).alloc (.cells #[.int .i64 0] 3)).alloc (.cells #[.int .i64 0] 3)) (wc.heap.size + 1 + 1) (.int .i64 0) 3 := by
    have := OneB.new ((wc.alloc (.cells #[.int .u32 pa, .int .i64 pn] 25)).alloc (.cells #[.int .i64 0] 3)) (.int .i64 0) 3
    simpa using this
  have A2 := HA5.out.below B2
  have b5 := HB5.out.below B2
  clear S1 B1
  generalize (((wc.alloc (.cells #[.int .u32 pa, .int .i64 pn] 25)).alloc (.cells #[.int .i64 0] 3)).alloc (.cells #[.int .i64 0] 3)) = W0 at *
  clear HA5 HB5
  refine rf12_turn pa pn hpa hpb w.heap.size (w.heap.size + 1) (w.heap.size + 1 + 1) ba (wc.heap.size + 1) (wc.heap.size + 1 + 1) wc.heap.size many 0 []
    _ _ _ _ _ _ _ _ _ _ _ _ _ _ _ _ _ _ _ _ _ _ _ _ _ _ _ _ _ _ _ _ _ _ _ _ _ _ _ _ _ _ _ _ _ _ _ _ _ _ _ _ _ _ _ _ _ _ _ _ _ _ _ _ _ _ _ _ _ _ _ _ _ _ _ _ _ _ _ _ _ _ _ _ _ _ _ _ _ _ _ _ _ _ _ _ _ _ _ _ _ _ _ _ _ _ _ W0 _
    (by omega) (by omega) (by omega) (by omega) (by omega) (by omega) A2.p A2.m A2.r b5 bt0 bn0 S2 ?_ ?_
  all_goals
    rintro D W hD ⟨n, hn1, hn2, _, hn, hg⟩ hK
    have hn2' := hn2 rfl
    clear hn2
    have A3 := A2.grown hg (by omega)
    have c5 := b5.grown hg (by omega)
    have c7 := bt0.grown hg (by omega)
    have x0 := hn.c
    have x3 := A3.m.c
    have x5 := c5.c
    have x7 := c7.c
    have hWs := hg.size
    have gS0 := (hg.block wc.heap.size (by omega) (fun e => by have := Option.some.inj e; omega)).trans S2
    have hDl : D < W.heap.size := (Array.getElem?_eq_some_iff.1 hK).1
    go_wp2_with fail
    rw [rounds_succ]
    go_wp2_with fail
    have bY : Below W.heap.size W ((W.alloc (.cells #[.int .i64 1] 3)).alloc (.cells #[.int .i64 0] 3)) := ((Below.refl _ _).alloc (Nat.le_refl _) _).alloc (by simp) _
    have A4 := A3.below bY
    have d5 := c5.below bY
    have gK := (bY.block D hDl).trans hK
    have gS := (bY.block wc.heap.size (by omega)).trans gS0
    have gt : OneB ((W.alloc (.cells #[.int .i64 1] 3)).alloc (.cells #[.int .i64 0] 3)) W.heap.size (.int .i64 1) 3 := (OneB.new W _ _).alloc _
    have gn : OneB ((W.alloc (.cells #[.int .i64 1] 3)).alloc (.cells #[.int .i64 0] 3)) (W.heap.size + 1) (.int .i64 0) 3 := by
      have := OneB.new (W.alloc (.cells #[.int .i64 1] 3)) (.int .i64 0) 3
      simpa using this
    have hgs : ((W.alloc (.cells #[.int .i64 1] 3)).alloc (.cells #[.int .i64 0] 3)).heap.size = W.heap.size + 1 + 1 := by simp
    generalize (W.alloc (.cells #[.int .i64 1] 3)).alloc (.cells #[.int .i64 0] 3) = W4 at *
    clear x0 x3 x5 x7 hn2' bY hn hg hK A3 c5 c7 gS0
    refine rf12_turn pa pn hpa hpb w.heap.size (w.heap.size + 1) (w.heap.size + 1 + 1) ba W.heap.size (W.heap.size + 1) wc.heap.size many 1 _
      _ _ _ _ _ _ _ _ _ _ _ _ _ _ _ _ _ _ _ _ _ _ _ _ _ _ _ _ _ _ _ _ _ _ _ _ _ _ _ _ _ _ _ _ _ _ _ _ _ _ _ _ _ _ _ _ _ _ _ _ _ _ _ _ _ _ _ _ _ _ _ _ _ _ _ _ _ _ _ _ _ _ _ _ _ _ _ _ _ _ _ _ _ _ _ _ _ _ _ _ _ _ _ _ _ _ _ W4 _
      (by omega) (by omega) (by omega) (by omega) (by omega) (by omega) A4.p A4.m A4.r d5 gt gn gS ?_ ?_
    all_goals
      rintro D2 V hD2 ⟨n2, hm1, _, hm2, hn, hg⟩ hK
      obtain rfl := hm2 (by omega)
      clear hm2
      have A5 := A4.grown hg (by omega)
      have x0 := hn.c
      have x3 := A5.m.c
      have x5 := (d5.grown hg (by omega)).c
      have x7 := (gt.grown hg (by omega)).c
      have oK := (hg.block D (by omega) (fun e => by have := Option.some.inj e; omega)).trans gK
      go_wp2_with fail
      rw [rounds_succ]
      go_wp2_with fail
      have bZ : Below V.heap.size V (V.alloc (.cells #[.int .i64 2] 3)) := (Below.refl _ _).alloc (Nat.le_refl _) _
      have A6 := A5.below bZ
      replace oK := (bZ.block D (Array.getElem?_eq_some_iff.1 oK).1).trans oK
      have oK2 := (bZ.block D2 (Array.getElem?_eq_some_iff.1 hK).1).trans hK
      generalize V.alloc (.cells #[.int .i64 2] 3) = V2 at *
      refine (works2 _ (HR.out.below A6.b)).mono ?_
      rintro e V3 ⟨rfl, hb9⟩
      have A7 := A6.below hb9
      replace oK := (hb9.block D (Array.getElem?_eq_some_iff.1 oK).1).trans oK
      replace oK2 := (hb9.block D2 (Array.getElem?_eq_some_iff.1 oK2).1).trans oK2
      clear x0 x3 x5 x7 bZ hb9
      have y0 := A7.r.c
      have y1 := A7.r.f
      go_wp2_with fail
      have o5 := A7.r.set (.bool true)
      have oB2 := A7.b.setCell (p := ⟨w.heap.size + 1 + 1, 0, none⟩) (by simp; omega) (.bool true)
      have k1 := (KeepsOthers.setCell V3 ⟨w.heap.size + 1 + 1, 0, none⟩ (.bool true)).same D _ oK rfl
      have k2 := (KeepsOthers.setCell V3 ⟨w.heap.size + 1 + 1, 0, none⟩ (.bool true)).same D2 _ oK2 rfl
      generalize V3.setCell ⟨w.heap.size + 1 + 1, 0, none⟩ (.bool true) = V4 at *
      have hne : D ≠ D2 := by omega
      have hwD : w.heap.size + 1 + 1 < D := by omega
      have hwD2 : w.heap.size + 1 + 1 < D2 := by omega
      have o6 : OneB (V4.putObj D2 (.deferred none)) (w.heap.size + 1 + 1) (.bool true) 4 := (World.putObj_heap_other (by omega)).trans o5
      have oB3 := oB2.trans (belowK_b (w := w) (Nat.le_refl _) V4 D2 _ (.deferred none) (by omega) k2 rfl rfl)
      have k3 : (V4.putObj D2 (.deferred none)).heap[D]? = some (.deferred (some [])) := (World.putObj_heap_other (by omega)).trans k1
      refine ⟨by simp, .inl ⟨_, _, rfl, run_takeDeferred k2, ?_⟩⟩
      generalize V4.putObj D2 (.deferred none) = V5 at *
      have o7 : OneB (V5.putObj D (.deferred none)) (w.heap.size + 1 + 1) (.bool true) 4 := (World.putObj_heap_other (by omega)).trans o6
      have oB4 := oB3.trans (belowK_b (w := w) (Nat.le_refl _) V5 D _ (.deferred none) (by omega) k3 rfl rfl)
      refine ⟨by simp, .inl ⟨_, _, rfl, run_takeDeferred k3, ?_⟩⟩
      generalize V5.putObj D (.deferred none) = V6 at *
      have q0 := o7.c
      exact ⟨.bool true, by simp [results, Tryd.results12, go_sem, q0], rfl, oB4⟩
end Go.Proofs.YtmmoccceafcfkaaDoor
