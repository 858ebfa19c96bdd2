/- TrieFinds: the walk. -/
import Derived.Test.YtbacahoihkpkpaaDoorU11
import Derived.Test.YtbacahoihkpkpaaDoorU14
namespace Go.Proofs.YtbacahoihkpkpaaDoor
open Go.RowKit Go.Shelf Go.Maps

set_option maxRecDepth 100000 in
set_option maxHeartbeats 2000000 in
theorem Above_anyF (q : Nat) (t : TT) (p : Key) (w : World) (h : TrS w q t) (hR : RelsAt w) (hp : p.length ≤ 32) :
    Calls Tryd.prog 13 #[.pointer (some ⟨q, 0, none⟩), .agg #[.int .u32 (ka p), .int .i64 p.length]] w fun e w' => ∃ v, e = .returned v ∧ ToldF w' w.heap.size v (t.above p) ∧ Below w.heap.size w w' := by
  have b0 : Below w.heap.size w (w.alloc (.cells #[.int .u32 (ka p), .int .i64 p.length] 26)) := (Below.refl _ w).alloc (Nat.le_refl _) _
  have h1 := h.below b0
  have h2 := hR.below b0
  have hN := Lib.hid (none_t q t _ h1)
  have HB0 := Lib.hid b0
  have H1 := Lib.hid h1
  have H2 := Lib.hid h2
  have hC := Lib.hid (Check_t (ka p) p.length (w.alloc (.cells #[.int .u32 (ka p), .int .i64 p.length] 26)) (ka_right hp))
  clear h h1 h2 hR b0
  go_enter Tryd.func13, Tryd.ntmps13
  go_wp2_with (first
    | (go_at_call 34; with_reducible refine hN.out.mono ?_; rintro e w' ⟨rfl, rfl⟩)
    | (go_at_call 36; with_reducible refine hC.out.mono ?_; rintro e w1 ⟨rfl, hb⟩; have HB1 := Lib.hid hb
       have e0 := (hb.cell (p := ⟨w.heap.size, 0, none⟩) (by simp)).trans (show (w.alloc (.cells #[.int .u32 (ka p), .int .i64 p.length] 26)).cell? ⟨w.heap.size, 0, none⟩ = some (.int .u32 (ka p)) by simp [go_sem])
       have e1 := (hb.cell (p := ⟨w.heap.size, 1, none⟩) (by simp)).trans (show (w.alloc (.cells #[.int .u32 (ka p), .int .i64 p.length] 26)).cell? ⟨w.heap.size, 1, none⟩ = some (.int .i64 p.length) by simp [go_sem])
       have h3 := H1.out.below hb
       have hA := Lib.hid (above_any q p t (by omega) h3.keysLen h3.dp _ h3.at h3.lt (H2.out.below hb))
       clear hb h3)
    | (go_at_call 35; with_reducible refine hA.out.mono ?_; rintro e w2 ⟨v, rfl, hrow, hb⟩; have HB := Lib.hid hb; have HW := Lib.hid hrow; clear hb hrow
       obtain ⟨base, g, cap, rfl, hrl, hbg, hcap⟩ := rl_of_row HW.out (by have := HB.out.size; have := HB1.out.size; simp at this; omega)
       have HRl := Lib.hid hrl
       have HBg := Lib.hid hbg
       clear hrl hbg)
    | (go_at_call 37; with_reducible refine (told_any _ _ _ _ rfl _).mono ?_; rintro e w' ⟨rfl, rfl⟩)
    | fail)
  go_ret
  have z1 := HB1.out.size
  have z2 := HB.out.size
  simp at z1
  have b2 : Below w.heap.size w w2 := (HB0.out.trans (HB1.out.mono (by simp))).trans (HB.out.mono (by omega))
  refine ⟨_, rfl, ?_, b2.alloc b2.size _⟩
  by_cases hL : t.above p = []
  · rw [hL]
    exact ToldF.mk' (L := []) (RL.nilAny (g := w.heap.size) (by omega) base 0) (by simp) b2.size (Nat.le_refl _)
  · refine ToldF.mk' HRl.out hcap b2.size ?_
    rcases HBg.out with hn | hg
    · obtain ⟨x, hx⟩ := List.exists_mem_of_ne_nil _ hL
      obtain ⟨j, hj, _⟩ := List.mem_iff_getElem.1 hx
      obtain ⟨e, _⟩ := HRl.out.row j _ (List.getElem?_eq_getElem hj)
      rw [hn] at e
      cases e
    · omega
set_option maxRecDepth 100000 in
set_option maxHeartbeats 2000000 in
theorem Above_argF (q : Nat) (t : TT) (a n : Int) (w : World) (h : TrS w q t) (hr : rightB a n = false) :
    Calls Tryd.prog 13 #[.pointer (some ⟨q, 0, none⟩), .agg #[.int .u32 a, .int .i64 n]] w fun e w' => ∃ v, e = .returned v ∧ ToldF w' w.heap.size v [] ∧ Below w.heap.size w w' :=
  (Above_arg q t a n w h hr).mono fun e w' ⟨v, h1, h2, h3⟩ => ⟨v, h1, by
    obtain ⟨Bs, g, o, cap, base, k1, k2, k3, k4, k5⟩ := h2.ex
    exact ⟨Bs, Bs, 0, cap, base, k1, k2, k3, RL.nilAny (Array.getElem?_eq_some_iff.1 k3).1 _ _, k5, k2⟩, h3⟩

/-- Above by both -/
theorem aboveB_ex (w0 : World) (q : Nat) (t : TT) (g : Nat) (v : Value) (a n : Int) (hw : t.WF) (a0 : 0 ≤ a) (a1 : a < 4294967296) (hl : t.rows.length ≤ 1000) :
    ∃ M : List (Key × Int), (∀ W, TW w0 W q t → Calls Tryd.prog 13 #[.pointer (some ⟨q, 0, none⟩), .agg #[.int .u32 a, .int .i64 n]] W fun e w' => ∃ v, e = .returned v ∧ ToldF w' W.heap.size v M ∧ Below W.heap.size W w') ∧
      (∀ W, RT W g v t.rows → Calls Tryd.prog 16 #[v, .agg #[.int .u32 a, .int .i64 n]] W fun e w' => ∃ v', e = .returned v' ∧ RSl w' v' M ∧ Below W.heap.size W w') ∧ M.length < 1000000 ∧ ∀ x ∈ M, x.1.length ≤ 32 := by
  cases hr : rightB a n with
  | false =>
    refine ⟨[], fun W hT => Above_argF q t a n W hT.st hr, fun W hS => ?_, by simp, fun x hx => by cases hx⟩
    exact (rAbove_arg v g t.rows a n W hS a0 a1 hr).mono fun e w' ⟨h1, h2⟩ => ⟨_, h1, ⟨none, 0, 0, 0, rfl, RL.none (by have := hS.lt; have := h2.size; omega) 0, by simp⟩, h2⟩
  | true =>
    obtain ⟨e1, e2, e3⟩ := ka_bs a0 a1 hr
    revert e1 e2 e3
    generalize bs a n = p
    intro e1 e2 e3
    subst e1 e2
    refine ⟨t.above p, fun W hT => Above_anyF q t p W hT.st hT.rel e3, fun W hS => ?_, ?_, fun x hx => ?_⟩
    · have := rAbove_key v g t.rows p W hS hw.rows e3 hl
      rw [← TT.above_eq hw p] at this
      exact this
    · rw [TT.above_eq hw p]
      have := List.length_filter_le (fun x : Key × Int => decide (x.1 <+: p)) t.rows
      omega
    · rw [TT.above_eq hw p] at hx
      exact hw.lenR x (List.mem_filter.1 hx).1
/-- Find by both -/
theorem findB (o : Option (Key × Int)) : ∃ fa fn fv : Int, ∃ fb : Bool, findV o = .tuple #[.agg #[.int .u32 fa, .int .i64 fn], .int .i64 fv, .bool fb] ∧ rfindV o = .tuple #[.agg #[.int .u32 fa, .int .i64 fn, .int .i64 fv], .bool fb] := by
  cases o with
  | none => exact ⟨0, 0, 0, false, rfl, rfl⟩
  | some x => exact ⟨ka x.1, x.1.length, x.2, true, rfl, rfl⟩
/-- what Put leaves untold -/
theorem putE_ex (w0 : World) (q : Nat) (t : TT) (a n x : Int) (a0 : 0 ≤ a) (a1 : a < 4294967296) (hl : t.rows.length < 500) :
    ∃ o h e, (e = 0 ∨ e ≠ 0 ∧ o = 0 ∧ h = false) ∧ ∀ W, TW w0 W q t → Calls Tryd.prog 14 #[.pointer (some ⟨q, 0, none⟩), .agg #[.int .u32 a, .int .i64 n], .int .i64 x] W fun en w' => en = .returned (.tuple #[.int .i64 o, .bool h, .int .i64 e]) ∧ ∃ t', Went W w' q t t' := by
  cases hr : rightB a n with
  | false => exact ⟨0, false, 2, .inr ⟨by omega, rfl, rfl⟩, fun W hT => (Put_arg q t a n x W hT.st hr).mono fun e w' ⟨h1, h2⟩ => ⟨h1, t, Went.refl hT.st h2⟩⟩
  | true =>
    obtain ⟨e1, e2, e3⟩ := ka_bs a0 a1 hr
    revert e1 e2 e3
    generalize bs a n = p
    intro e1 e2 e3
    subst e1 e2
    cases hg : t.get p with
    | some u => exact ⟨u, true, 0, .inl rfl, fun W hT => (Put_old q t p u x W hT.st hT.rel e3 hg).mono fun e w' ⟨h1, t', h2, _⟩ => ⟨h1, t', h2⟩⟩
    | none => exact ⟨0, false, 0, .inl rfl, fun W hT => (Put_new q t p x W hT.st hT.rel e3 hg (by omega)).mono fun e w' ⟨h1, t', h2, _⟩ => ⟨h1, t', h2⟩⟩

set_option maxRecDepth 100000 in
set_option maxHeartbeats 8000000 in
theorem TrieFinds_any (w : World) (hR : RelsAt w) (base : Option Addr) (b o k c : Nat) (what a n val : Nat → Int) (h : ActsIn w base b o k what a n val) (hk : k ≤ 40) (A : Key) (hA : A.length = 32) (pa pn many : Int) (p0 : 0 ≤ pa) (p1 : pa < 4294967296) :
    Calls Tryd.prog 3 #[.slice base k c, .int .u32 (ka A), .agg #[.int .u32 pa, .int .i64 pn], .int .i64 many] w fun e w' => e = .returned (.bool true) ∧ Below w.heap.size w w' := by
  have t1 : decide ((40 : Int) < (k : Int)) = false := by simp; omega
  have b1 : Below w.heap.size w (w.alloc (.cells #[.int .u32 pa, .int .i64 pn] 26)) := (Below.refl _ w).alloc (Nat.le_refl _) _
  have HPly := Lib.hid (played_any _ (hR.below b1) base b o k c what a n val (h.below b1) (by omega))
  have HB1 := Lib.hid b1
  have HPx := Lib.hid (PBox.new w pa pn)
  clear b1 h hR
  go_enter Tryd.func3, Tryd.ntmps3
  go_upto_region 3 with fail
  generalize (w.alloc (.cells #[.int .u32 pa, .int .i64 pn] 26)) = X at *
  go_upto_region 4 with (first
    | (go_at_call 10; with_reducible refine HPly.out.mono ?_; rintro e w2 ⟨q, t, g, v, rfl, hpw, hlen⟩; obtain ⟨sb, sc, rfl, _, _⟩ := hpw.rt.ex; have HPW := Lib.hid hpw; have HLen := Lib.hid hlen; clear hpw hlen)
    | fail)
  have hab := (TT.above_eq HPW.out.tw.st.wf A)
  obtain ⟨fa, fn, fv, fb, hf1, hf2⟩ := findB (t.above A).getLast?
  have HF := Lib.hid (show ∀ W, TW X W q t → Calls Tryd.prog 11 #[.pointer (some ⟨q, 0, none⟩), .int .u32 (ka A)] W fun e w' => e = .returned (.tuple #[.agg #[.int .u32 fa, .int .i64 fn], .int .i64 fv, .bool fb]) ∧ Below W.heap.size W w' from fun W hT => by
    have := Find_any q t A W hT.st hT.rel hA
    rwa [hf1] at this)
  have HG := Lib.hid (show ∀ W, RT W g (.agg #[.slice sb t.rows.length sc]) t.rows → Calls Tryd.prog 12 #[.agg #[.slice sb t.rows.length sc], .int .u32 (ka A)] W fun e w' => e = .returned (.tuple #[.agg #[.int .u32 fa, .int .i64 fn, .int .i64 fv], .bool fb]) ∧ Below W.heap.size W w' from fun W hS => by
    have := rFind_any _ g t.rows A W hS HPW.out.tw.st.wf.rows hA (by have := HLen.out; omega)
    rwa [← hab, hf2] at this)
  obtain ⟨M, hM1, hM2, hM3, hM4⟩ := aboveB_ex X q t g (.agg #[.slice sb t.rows.length sc]) pa pn HPW.out.tw.st.wf p0 p1 (by have := HLen.out; omega)
  obtain ⟨oo, hh, ee, hcase, hput⟩ := putE_ex X q t pa pn 77 p0 p1 (by have := HLen.out; omega)
  have HM1 := Lib.hid hM1
  have HM2 := Lib.hid hM2
  have HM3 := Lib.hid hM3
  have HM4 := Lib.hid hM4
  have HPut := Lib.hid hput
  have HCase := Lib.hid hcase
  clear hab hf1 hf2 hM1 hM2 hM3 hM4 hput hcase
  have HB2 := Lib.hid (bthen HPW.out.tw.bl ((Below.refl _ w2).alloc (Nat.le_refl _) (.cells #[.slice sb t.rows.length sc] 31)))
  have HW := Lib.hid (HPW.out.below ((Below.refl _ w2).alloc (Nat.le_refl _) (.cells #[.slice sb t.rows.length sc] 31)))
  have HO := Lib.hid (OneB.new w2 (.slice sb t.rows.length sc) 31)
  have HNb := Lib.hid (show ∀ i, w2.heap.size ≤ i → i ∉ q :: t.blocks from fun i hi hm => by
    rcases List.mem_cons.1 hm with e | hm
    · have := HPW.out.tw.st.lt; omega
    · have := HPW.out.tw.st.here.lt hm; omega)
  have HNx := Lib.hid (show ∀ i, i < X.heap.size → i ∉ q :: t.blocks from fun i hi hm => by have := HPW.out.tw.ge i hm; omega)
  generalize (w2.alloc (.cells #[.slice sb t.rows.length sc] 31)) = Y at *
  generalize w2.heap.size = B at *
  have HCell := Lib.hid (show ∀ W', Below Y.heap.size Y W' → W'.cell? ⟨w.heap.size, 0, none⟩ = some (.int .u32 pa) ∧ W'.cell? ⟨w.heap.size, 1, none⟩ = some (.int .i64 pn) ∧ W'.cell? ⟨B, 0, none⟩ = some (.slice sb t.rows.length sc) from fun W' hb =>
    ⟨((HPx.out.below HB2.out).below hb).c0, ((HPx.out.below HB2.out).below hb).c1, (HO.out.below hb).c⟩)
  clear HPW
  go_upto_region 5 with (first
    | (go_at_call 11; with_reducible refine (HF.out _ HW.out.tw).mono ?_; rintro e w3 ⟨rfl, hb⟩; have HB3 := Lib.hid hb; clear hb)
    | fail)
  have HQ := Lib.hid (PBox.new w3 fa fn)
  have HB4 := Lib.hid (HB3.out.alloc HB3.out.size (.cells #[.int .u32 fa, .int .i64 fn] 26))
  have hqn : Y.heap.size ≤ w3.heap.size := HB3.out.size
  generalize (w3.alloc (.cells #[.int .u32 fa, .int .i64 fn] 26)) = Y1 at *
  generalize w3.heap.size = B2 at *
  clear HB3
  obtain ⟨c0, c1, e0⟩ := HCell.out _ HB4.out
  go_upto_region 6 with (first
    | (go_at_call 12; with_reducible refine (HG.out _ (HW.out.rt.below HB4.out)).mono ?_; rintro e w4 ⟨rfl, hb⟩; have HB5 := Lib.hid hb; clear hb c0 c1 e0)
    | fail)
  have HR := Lib.hid (RBox.new w4 fa fn fv)
  have HB6 := Lib.hid (HB5.out.alloc HB5.out.size (.cells #[.int .u32 fa, .int .i64 fn, .int .i64 fv] 37))
  have hrn : Y1.heap.size ≤ w4.heap.size := HB5.out.size
  generalize (w4.alloc (.cells #[.int .u32 fa, .int .i64 fn, .int .i64 fv] 37)) = Y2 at *
  generalize w4.heap.size = B3 at *
  clear HB5
  have HB7 := Lib.hid (bthen HB4.out HB6.out)
  obtain ⟨c0, c1, e0⟩ := HCell.out _ HB7.out
  go_upto_region 8 with (first
    | (go_at_call 13; with_reducible refine (HM1.out _ (HW.out.tw.below HB7.out)).mono ?_; rintro e w5 ⟨tv, rfl, htd, hb⟩; have HTd := Lib.hid htd; have HB8 := Lib.hid hb; clear htd hb c0 c1 e0; obtain ⟨c0, c1, e0⟩ := HCell.out _ (bthen HB7.out HB8.out))
    | (go_at_call 14; with_reducible refine (HPut.out _ (HW.out.tw.below (bthen HB7.out HB8.out))).mono ?_; rintro e w6 ⟨rfl, t', hwt⟩; have HWt := Lib.hid hwt; clear hwt c0 c1 e0)
    | fail)
  have HB9 := Lib.hid (bthen HB7.out HB8.out)
  have htd6 : ToldF w6 Y2.heap.size tv M := HTd.out.keep fun i h1 h2 => HWt.out.kb.block i h2 (HNb.out i (by have := HO.out.lt; have := HB7.out.size; omega))
  have hrt6 : RT w6 g (.agg #[.slice sb t.rows.length sc]) t.rows := (HW.out.rt.below HB9.out).of_block (HWt.out.kb.block g (HW.out.rt.below HB9.out).lt HW.out.ap)
  have ho6 : OneB w6 B (.slice sb t.rows.length sc) 31 := (HWt.out.kb.block B (HO.out.below HB9.out).lt (HNb.out B (Nat.le_refl _))).trans (HO.out.below HB9.out)
  have hp6 : PBox w6 w.heap.size pa pn := (HWt.out.kb.block _ ((HPx.out.below HB2.out).below HB9.out).lt (HNx.out _ HPx.out.lt)).trans ((HPx.out.below HB2.out).below HB9.out)
  have hq6 : PBox w6 B2 fa fn := (HWt.out.kb.block B2 (HQ.out.below (bthen HB6.out HB8.out)).lt (HNb.out B2 (by have := HO.out.lt; omega))).trans (HQ.out.below (bthen HB6.out HB8.out))
  have hr6 : RBox w6 B3 fa fn fv := (HWt.out.kb.block B3 (HR.out.below HB8.out).lt (HNb.out B3 (by have := HO.out.lt; have := HB4.out.size; omega))).trans (HR.out.below HB8.out)
  have hT6 := (HW.out.tw.below HB9.out).went HWt.out
  have HCl := Lib.hid (show ∀ W', Below w6.heap.size w6 W' → (W'.cell? ⟨w.heap.size, 0, none⟩ = some (.int .u32 pa) ∧ W'.cell? ⟨w.heap.size, 1, none⟩ = some (.int .i64 pn)) ∧ W'.cell? ⟨B, 0, none⟩ = some (.slice sb t.rows.length sc) ∧ (W'.cell? ⟨B2, 0, none⟩ = some (.int .u32 fa) ∧ W'.cell? ⟨B2, 1, none⟩ = some (.int .i64 fn)) ∧ (W'.cell? ⟨B3, 0, none⟩ = some (.int .u32 fa) ∧ W'.cell? ⟨B3, 1, none⟩ = some (.int .i64 fn) ∧ W'.cell? ⟨B3, 2, none⟩ = some (.int .i64 fv)) from fun W' hb =>
    ⟨⟨(hp6.below hb).c0, (hp6.below hb).c1⟩, (ho6.below hb).c, ⟨(hq6.below hb).c0, (hq6.below hb).c1⟩, (hr6.below hb).c0, (hr6.below hb).c1, (hr6.below hb).c2⟩)
  have HTd6 := Lib.hid htd6
  have HRt6 := Lib.hid hrt6
  have HT6 := Lib.hid hT6
  clear htd6 hrt6 ho6 hp6 hq6 hr6 hT6 hqn hrn
  obtain ⟨⟨c0, c1⟩, e0, ⟨q0, q1⟩, r0, r1, r2⟩ := HCl.out w6 (Below.refl _ _)
  have HV := Lib.hid (Below.refl w6.heap.size w6)
  rcases HCase.out with rfl | ⟨hne, rfl, rfl⟩
  all_goals
    (first | (have h0 : (ee == 0) = false := by simpa using hne) | skip)
    (first | clear hne | skip)
    go_wp2_with (first
      | (go_at_call 16; with_reducible refine (HM2.out _ (HRt6.out.below HV.out)).mono ?_; rintro e w7 ⟨rv, rfl, hsl, hb⟩; have HSl := Lib.hid hsl; have HV := Lib.hid (bthen HV.out hb); clear c0 c1 e0 q0 q1 r0 r1 r2 hsl hb; obtain ⟨⟨c0, c1⟩, e0, ⟨q0, q1⟩, r0, r1, r2⟩ := HCl.out _ HV.out)
      | (go_at_call 15; with_reducible refine (rows_told (HTd6.out.below HV.out).told HSl.out HM3.out HM4.out _).mono ?_; rintro e w7 ⟨rfl, hb⟩; have HV := Lib.hid (bthen HV.out hb); clear c0 c1 e0 q0 q1 r0 r1 r2 hb; obtain ⟨⟨c0, c1⟩, e0, ⟨q0, q1⟩, r0, r1, r2⟩ := HCl.out _ HV.out)
      | (go_at_call 17; with_reducible refine (num_any _ _).mono ?_; rintro e w7 ⟨rfl, rfl⟩)
      | (go_at_call 9; with_reducible refine (works_any _ (HT6.out.rel.below HV.out)).mono ?_; rintro e w7 ⟨rfl, hb⟩; have HV := Lib.hid (bthen HV.out hb); clear c0 c1 e0 q0 q1 r0 r1 r2 hb)
      | fail)
    go_ret
    exact ⟨rfl, bthen HB1.out (bthen HT6.out.bl HV.out)⟩
end Go.Proofs.YtbacahoihkpkpaaDoor
