/- TimersCopies: the walk. (Printed by gen_h4.py.) -/
import Derived.Test.YtkigoihdmojpfaaG9
import Derived.RegionTactic
import Derived.Deep.RegionWith
import Derived.Deep.CutBlock
namespace Go.Proofs.Ytkigoihdmojpfaa
open Go.RowKit
open Go.Sort (grow)

def plRel (w : World) (B k m : Nat) (v7 v9 v10 : Value) (wr : World) : Prop :=
  ∃ (i q : Nat) (F : List Nat) (S : List TR) (g : Nat) (b : Option Addr) (c : Nat), m = k - i ∧ i ≤ k ∧ v7 = .pointer (some ⟨q, 0, none⟩) ∧ v9 = .bool true ∧ v10 = .int .i64 i ∧ PT w wr B q F S g b c ∧ S.length ≤ i

set_option maxRecDepth 100000 in
set_option maxHeartbeats 16000000 in
theorem TimersCopies_any (w : World) (base : Option Addr) (b o k c : Nat) (wt kd a n dd : Nat → Int) (h : ActsIn w base b o k wt kd a n dd) (hk : k ≤ 40) (xt xk xa xn xd yt yk ya yn yd : Int) (hx : KBt xk xa xn) (hy : KBt yk ya yn) :
    Calls Try.prog 6 #[.slice base k c, .agg #[.int .i64 xt, .int .i64 xk, .int .u32 xa, .int .i64 xn, .int .i64 xd], .agg #[.int .i64 yt, .int .i64 yk, .int .u32 ya, .int .i64 yn, .int .i64 yd]] w fun e w' => e = .returned (.bool true) ∧ Below w.heap.size w w' := by
  have t1 : decide ((40 : Int) < (k : Int)) = false := by simp; omega
  have b1 : Below w.heap.size w ((w.alloc (.cells #[.int .i64 xt, .int .i64 xk, .int .u32 xa, .int .i64 xn, .int .i64 xd] 31)).alloc (.cells #[.int .i64 yt, .int .i64 yk, .int .u32 ya, .int .i64 yn, .int .i64 yd] 31)) := bthen (below1 _ _) (below1 _ _)
  have p0 : ((w.alloc (.cells #[.int .i64 xt, .int .i64 xk, .int .u32 xa, .int .i64 xn, .int .i64 xd] 31)).alloc (.cells #[.int .i64 yt, .int .i64 yk, .int .u32 ya, .int .i64 yn, .int .i64 yd] 31)).heap[w.heap.size]? = some (.cells #[.int .i64 xt, .int .i64 xk, .int .u32 xa, .int .i64 xn, .int .i64 xd] 31 (0, 0)) := (Below.heap_alloc _ _ _ (by simp)).trans (heap_alloc_new w _)
  have p1 : ((w.alloc (.cells #[.int .i64 xt, .int .i64 xk, .int .u32 xa, .int .i64 xn, .int .i64 xd] 31)).alloc (.cells #[.int .i64 yt, .int .i64 yk, .int .u32 ya, .int .i64 yn, .int .i64 yd] 31)).heap[w.heap.size + 1]? = some (.cells #[.int .i64 yt, .int .i64 yk, .int .u32 ya, .int .i64 yn, .int .i64 yd] 31 (0, 0)) := by
    have := heap_alloc_new (w.alloc (.cells #[.int .i64 xt, .int .i64 xk, .int .u32 xa, .int .i64 xn, .int .i64 xd] 31)) (.cells #[.int .i64 yt, .int .i64 yk, .int .u32 ya, .int .i64 yn, .int .i64 yd] 31)
    rwa [World.size_alloc] at this
  have HI := Lib.hid (h.below b1)
  have HB1 := Lib.hid b1
  have HP0 := Lib.hid p0
  have HP1 := Lib.hid p1
  have HXk := Lib.hid hx
  have HYk := Lib.hid hy
  clear b1 p0 p1 h hx hy
  go_enter Try.func6, Try.ntmps6
  go_upto_region 1 with fail
  generalize ((w.alloc (.cells #[.int .i64 xt, .int .i64 xk, .int .u32 xa, .int .i64 xn, .int .i64 xd] 31)).alloc (.cells #[.int .i64 yt, .int .i64 yk, .int .u32 ya, .int .i64 yn, .int .i64 yd] 31)) = X at *
  go_upto_region 4 with (first
    | (go_at_call 9; (with_reducible refine (New_o _).mono ?_); rintro e w1 ⟨q0, rfl, hq⟩; have HQ := Lib.hid hq; clear hq)
    | fail)
  obtain ⟨F0, hPT⟩ := PT.start HQ.out
  have HPT := Lib.hid hPT
  obtain ⟨B, hB⟩ : ∃ B, B = w1.heap.size := ⟨_, rfl⟩
  rw [← hB] at HPT ⊢
  clear hPT t1 HQ hB
  generalize (w1.alloc (.cells #[.slice none 0 0] 37)) = X0 at *
  go_upto_block 0 with fail
  go_cut [7, 9] (fun v7 v9 wx => ∃ (q : Nat) (F : List Nat) (S : List TR) (g : Nat) (sb : Option Addr) (sc : Nat), v7 = .pointer (some ⟨q, 0, none⟩) ∧ v9 = .bool true ∧ PT X wx B q F S g sb sc ∧ S.length ≤ k)
  case first => as_aux_lemma =>
    go_wp2_with fail
    go_loopg [7, 9, 10] k (plRel X B k)
    case atStart => exact ⟨0, q0, F0, [], B, none, 0, rfl, by omega, rfl, rfl, rfl, HPT.out, by simp⟩
    case round =>
      clear HPT
      obtain ⟨i, q, F, S, g, sb, sc, hn, hik, rfl, rfl, rfl, hpt, hlen⟩ := hrel
      have Hn := Lib.hid hn
      have HPt := Lib.hid hpt
      clear hn hpt
      by_cases hlt : i < k
      · have hin := HI.out.below HPt.out.pw.bl
        obtain rfl := hin.is (by omega)
        obtain ⟨a0, a1, a2, a3, a4⟩ := hin.c i hlt
        have hBd := hin.bd i
        have hKb := hBd.k
        have hbl := HI.out.lt (by omega)
        generalize hwt : wt i = wt' at *
        generalize hfk : kd i = k' at *
        generalize hfc : a i = a' at *
        generalize hbd : n i = n' at *
        generalize hae : dd i = x' at *
        have HKb := Lib.hid hKb
        clear hwt hfk hfc hbd hae hBd hin hKb
        have HPd := Lib.hid (HPt.out.below (Below.refl _ _).drew)
        have HA := Lib.hid (act_any X q g F S _ wt' k' a' n' x' wr.drew HPd.out.pw HKb.out (by omega))
        have c4 := HPt.out.b4.c
        have i1 : (0 : Int) ≤ (i : Int) := by omega
        have i2 : (i : Int) < (k : Int) := by omega
        go_upto_block 1 with fail
        go_cut [7, 9] (fun v7 v9 wx => ∃ (q' : Nat) (F' : List Nat) (S' : List TR) (g' : Nat) (b' : Option Addr) (c' : Nat), v7 = .pointer (some ⟨q', 0, none⟩) ∧ v9 = .bool true ∧ PT X wx B q' F' S' g' b' c' ∧ S'.length ≤ i + 1)
        case first => as_aux_lemma =>
          go_upto_region 8 with fail
          go_region_with ((((with_reducible refine HA.out.mono ?_)); rintro e w2 ⟨q', F', S', g', v', rfl, hA, hl2⟩; obtain ⟨b', c', rfl, _, _⟩ := hA.pw.rt.ex; have hPT2 := HPd.out.act hA; have h6 : OneB w2 B (.slice sb S.length sc) 37 := (hA.kb.block B HPd.out.lt HPd.out.nb).trans HPd.out.b4; have e6 := h6.c; have f6 := h6.f; have HPT2 := Lib.hid hPT2; clear hA hPT2 h6))
          all_goals
            clear a0 a1 a2 a3 a4 c4 e6 f6
            generalize (w2.setCell ⟨B, 0, none⟩ (.slice b' S'.length c')) = WF at *
            go_wp2_with fail
            go_meet
            exact ⟨q', F', S', g', b', c', rfl, rfl, HPT2.out, by omega⟩
        case rest =>
          obtain ⟨q', F', S', g', b', c', rfl, rfl, hst, hl2⟩ := hcut
          have HST := Lib.hid hst
          clear hst a0 a1 a2 a3 a4 c4
          go_wp2_with fail
          go_roundg (k - (i + 1))
          case measure => have := Hn.out; omega
          case rel => exact ⟨i + 1, q', F', S', g', b', c', rfl, by omega, rfl, rfl, by go_num, HST.out, hl2⟩
      · obtain rfl : i = k := by omega
        go_wp2_with fail
        go_meet
        exact ⟨q, F, S, g, sb, sc, rfl, rfl, HPt.out, by omega⟩
  case rest =>
    clear HPT HI
    obtain ⟨q, F, S, g, sb, sc, rfl, rfl, hpt, hlen⟩ := hcut
    have HPt := Lib.hid hpt
    have hFl := fun i hm => And.intro (HPt.out.pw.qu.foot_lt i hm) (HPt.out.pw.ge i hm)
    have HQl := Lib.hid hFl
    clear hpt hFl
    have hXs := HPt.out.pw.bl.size
    have hXl := (Array.getElem?_eq_some_iff.1 HP1.out).1
    have hXl0 := (Array.getElem?_eq_some_iff.1 HP0.out).1
    have hBg := HPt.out.ge
    have hBl := HPt.out.lt
    have c8 := HPt.out.b4.c
    have HCp := Lib.hid (Copy_q q F S wc HPt.out.pw.qu (by omega))
    go_upto_region 10 with (first
      | (go_at_call 24; (with_reducible refine HCp.out.mono ?_); rintro e w3 ⟨⟨r, Fc, rfl, hqc, hge⟩, hb⟩; have HSt := Lib.hid hqc; have HGe := Lib.hid hge; have HB3 := Lib.hid hb; clear hqc hge hb c8)
      | fail)
    have HPt3 := Lib.hid (HPt.out.below HB3.out)
    have h3s := HB3.out.size
    have u0 := ((bthen HPt.out.pw.bl HB3.out).block _ hXl0).trans HP0.out
    have u1 := ((bthen HPt.out.pw.bl HB3.out).block _ hXl).trans HP1.out
    have HU1 := Lib.hid u1
    have d0 : w3.cell? ⟨w.heap.size, 0, none⟩ = some (.int .i64 xt) := by simp [World.cell?, u0]
    have d1 : w3.cell? ⟨w.heap.size, 1, none⟩ = some (.int .i64 xk) := by simp [World.cell?, u0]
    have d2 : w3.cell? ⟨w.heap.size, 2, none⟩ = some (.int .u32 xa) := by simp [World.cell?, u0]
    have d3 : w3.cell? ⟨w.heap.size, 3, none⟩ = some (.int .i64 xn) := by simp [World.cell?, u0]
    have d4 : w3.cell? ⟨w.heap.size, 4, none⟩ = some (.int .i64 xd) := by simp [World.cell?, u0]
    have c8 := HPt3.out.b4.c
    have HA := Lib.hid (act_any X q g F S _ xt xk xa xn xd w3 HPt3.out.pw HXk.out (by omega))
    clear u0 u1
    go_upto_region 11 with (first
      | (go_at_call 10; (with_reducible refine HA.out.mono ?_); rintro e w4 ⟨q1, F1, S1, g1, v1, rfl, hA, hl1⟩; obtain ⟨sb1, sc1, rfl, _, _⟩ := hA.pw.rt.ex; have HA1 := Lib.hid hA; have HL1 := Lib.hid hl1; clear hA hl1 c8 d0 d1 d2 d3 d4)
      | fail)
    have hA1s := HA1.out.kb.size
    have HRl := Lib.hid (show ∀ i ∈ Fc, i < w3.heap.size ∧ wc.heap.size ≤ i from fun i hm => ⟨HSt.out.foot_lt i hm, HGe.out i hm⟩)
    have HK1 := Lib.hid (show ∀ i, i < w3.heap.size → (i < X.heap.size ∨ wc.heap.size ≤ i ∨ i = B) → w4.heap[i]? = w3.heap[i]? from fun i hi hc => HA1.out.kb.block i hi (fun hm => by
      have h5 := HQl.out i hm
      rcases hc with hc | hc | hc
      · omega
      · omega
      · subst hc; exact HPt.out.nb hm))
    have hZ := below1 w4 (.cells #[.slice sb1 S1.length sc1] 37)
    have HO1 := Lib.hid (OneB.new w4 (.slice sb1 S1.length sc1) 37)
    have hgl := HPt.out.pw.rt.lt
    have HPc := Lib.hid (show PW X (w4.alloc (.cells #[.slice sb1 S1.length sc1] 37)) r Fc S g (.agg #[.slice sb S.length sc]) from by
      have hg4 : w4.heap[g]? = w3.heap[g]? := HA1.out.kb.block g HPt3.out.pw.rt.lt HPt3.out.pw.ap
      refine PW.below (W := w4) ⟨HSt.out.kept fun i hm => HK1.out i (HRl.out i hm).1 (.inr (.inl (HRl.out i hm).2)), HPt3.out.pw.rt.of_block hg4, fun i hm => by have := (HRl.out i hm).2; omega, fun hm => by have := (HRl.out g hm).2; omega, HA1.out.pw.bl⟩ hZ)
    have HPq := Lib.hid (HA1.out.pw.below hZ)
    have hZs := hZ.size
    have h8 : OneB (w4.alloc (.cells #[.slice sb1 S1.length sc1] 37)) B (.slice sb S.length sc) 37 := OneB.below ((HK1.out B (by omega) (.inr (.inr rfl))).trans HPt3.out.b4) hZ
    have hx1 : (w4.alloc (.cells #[.slice sb1 S1.length sc1] 37)).heap[w.heap.size + 1]? = some (.cells #[.int .i64 yt, .int .i64 yk, .int .u32 ya, .int .i64 yn, .int .i64 yd] 31 (0, 0)) := (hZ.block _ (by omega)).trans ((HK1.out _ (by omega) (.inl hXl)).trans HU1.out)
    generalize (w4.alloc (.cells #[.slice sb1 S1.length sc1] 37)) = Z at *
    have c8 := h8.c
    have d0 : Z.cell? ⟨w.heap.size + 1, 0, none⟩ = some (.int .i64 yt) := by simp [World.cell?, hx1]
    have d1 : Z.cell? ⟨w.heap.size + 1, 1, none⟩ = some (.int .i64 yk) := by simp [World.cell?, hx1]
    have d2 : Z.cell? ⟨w.heap.size + 1, 2, none⟩ = some (.int .u32 ya) := by simp [World.cell?, hx1]
    have d3 : Z.cell? ⟨w.heap.size + 1, 3, none⟩ = some (.int .i64 yn) := by simp [World.cell?, hx1]
    have d4 : Z.cell? ⟨w.heap.size + 1, 4, none⟩ = some (.int .i64 yd) := by simp [World.cell?, hx1]
    have HAc := Lib.hid (act_any X r g Fc S _ yt yk ya yn yd Z HPc.out HYk.out (by omega))
    clear h8 hx1 hZ
    go_upto_region 12 with (first
      | (go_at_call 10; (with_reducible refine HAc.out.mono ?_); rintro e w5 ⟨r2, F2, S2, g2, v2, rfl, hA, hl2⟩; obtain ⟨sb2, sc2, rfl, _, _⟩ := hA.pw.rt.ex; have HA2 := Lib.hid hA; have HL2 := Lib.hid hl2; clear hA hl2 c8 d0 d1 d2 d3 d4)
      | fail)
    have HV0 := Lib.hid (below1 w5 (.cells #[.slice sb2 S2.length sc2] 37))
    have hq5 : PW X w5 q1 F1 S1 g1 (.agg #[.slice sb1 S1.length sc1]) := by
      have hno : ∀ i ∈ F1, i ∉ Fc := fun i hm hr => by
        have h5 := HRl.out i hr
        rcases HA1.out.nb i hm with h6 | h6
        · have := HQl.out i h6; omega
        · omega
      refine ⟨HPq.out.qu.kept fun i hm => HA2.out.kb.block i (HPq.out.qu.foot_lt i hm) (hno i hm), HPq.out.rt.of_block (HA2.out.kb.block g1 HPq.out.rt.lt (fun hr => by
        have h5 := HRl.out g1 hr
        rcases HA1.out.ng with h6 | h6
        · omega
        · omega)), HPq.out.ge, HPq.out.ap, HA2.out.pw.bl⟩
    have ho1 : OneB w5 w4.heap.size (.slice sb1 S1.length sc1) 37 := (HA2.out.kb.block _ HO1.out.lt (fun hr => by have := HRl.out _ hr; omega)).trans HO1.out
    have HO2 := Lib.hid (OneB.new w5 (.slice sb2 S2.length sc2) 37)
    have HQ := Lib.hid (hq5.below HV0.out)
    have HC := Lib.hid (HA2.out.pw.below HV0.out)
    have HO1 := Lib.hid (ho1.below HV0.out)
    generalize (w5.alloc (.cells #[.slice sb2 S2.length sc2] 37)) = V at *
    generalize w5.heap.size = B2 at *
    generalize w4.heap.size = B1 at *
    clear hq5 ho1 HPq HPc HA1 HA2
    have hlen1 := HL1.out
    have hlen2 := HL2.out
    have HSm := Lib.hid (show Calls Try.prog 22 #[.slice sb1 S1.length sc1, .slice sb2 S2.length sc2] V fun e w' => e = .returned (.bool (decide (S1 = S2))) ∧ Below V.heap.size V w' from by
      obtain ⟨e1, e2, he1, hr1, _⟩ := HQ.out.rt.ex
      obtain ⟨f1, f2, he2, hr2, _⟩ := HC.out.rt.ex
      cases he1
      cases he2
      exact rSame_any _ _ _ _ _ _ _ _ _ _ V hr1 hr2 (by omega))
    have HS1 := Lib.hid (show ∀ W, Below V.heap.size V W → Calls Try.prog 20 #[.pointer (some ⟨q1, 0, none⟩), .pointer (some ⟨r2, 0, none⟩)] W fun e w' => e = .returned (.bool (decide (S1 = S2))) ∧ Below W.heap.size W w' from fun W hb => Same_q q1 r2 F1 F2 S1 S2 W (HQ.out.below hb).qu (HC.out.below hb).qu (by omega) (by omega))
    have HS2 := Lib.hid (show ∀ W, Below V.heap.size V W → Calls Try.prog 20 #[.pointer (some ⟨r2, 0, none⟩), .pointer (some ⟨q1, 0, none⟩)] W fun e w' => e = .returned (.bool (decide (S1 = S2))) ∧ Below W.heap.size W w' from fun W hb => by
      have h5 := Same_q r2 q1 F2 F1 S2 S1 W (HC.out.below hb).qu (HQ.out.below hb).qu (by omega) (by omega)
      have e5 : decide (S2 = S1) = decide (S1 = S2) := by rw [decide_eq_decide]; exact eq_comm
      rwa [e5] at h5)
    generalize decide (S1 = S2) = sm at *
    have HI1 := Lib.hid (fun W (hb : Below V.heap.size V W) => is_any X q1 g1 F1 S1 _ W (HQ.out.below hb) (by omega))
    have HI2 := Lib.hid (fun W (hb : Below V.heap.size V W) => is_any X r2 g2 F2 S2 _ W (HC.out.below hb) (by omega))
    have HCell := Lib.hid (show ∀ W, Below V.heap.size V W → W.cell? ⟨B1, 0, none⟩ = some (.slice sb1 S1.length sc1) ∧ W.cell? ⟨B2, 0, none⟩ = some (.slice sb2 S2.length sc2) from fun W hb => ⟨(HO1.out.below hb).c, (HO2.out.below hb).c⟩)
    obtain ⟨c1, c2⟩ := HCell.out V (Below.refl _ _)
    have HU := Lib.hid (Below.refl V.heap.size V)
    clear hlen1 hlen2
    go_wp2_with (first
      | (go_at_call 22; (with_reducible refine HSm.out.mono ?_); rintro e w6 ⟨rfl, hb⟩; have HU := Lib.hid hb; clear c1 c2 hb; obtain ⟨c1, c2⟩ := HCell.out _ HU.out)
      | (go_at_call 18; (with_reducible refine (HI1.out _ HU.out).mono ?_); rintro e w6 ⟨rfl, hb⟩; have HU := Lib.hid (bthen HU.out hb); clear c1 c2 hb; obtain ⟨c1, c2⟩ := HCell.out _ HU.out)
      | (go_at_call 18; (with_reducible refine (HI2.out _ HU.out).mono ?_); rintro e w6 ⟨rfl, hb⟩; have HU := Lib.hid (bthen HU.out hb); clear c1 c2 hb; obtain ⟨c1, c2⟩ := HCell.out _ HU.out)
      | (go_at_call 20; (with_reducible refine (HS1.out _ HU.out).mono ?_); rintro e w6 ⟨rfl, hb⟩; have HU := Lib.hid (bthen HU.out hb); clear c1 c2 hb; obtain ⟨c1, c2⟩ := HCell.out _ HU.out)
      | (go_at_call 20; (with_reducible refine (HS2.out _ HU.out).mono ?_); rintro e w6 ⟨rfl, hb⟩; have HU := Lib.hid (bthen HU.out hb); clear c1 c2 hb; obtain ⟨c1, c2⟩ := HCell.out _ HU.out)
      | (go_at_call 8; (with_reducible refine (works_any _).mono ?_); rintro e w6 ⟨rfl, hb⟩; have HU := Lib.hid (bthen HU.out hb); clear c1 c2 hb)
      | fail)
    go_ret
    exact ⟨by simp, bthen HB1.out (bthen HC.out.bl HU.out)⟩

set_option maxRecDepth 100000 in
set_option maxHeartbeats 4000000 in
theorem copies_more (w : World) (base : Option Addr) (k c : Nat) (hk : 40 < k) (hm : k ≤ 9223372036854775807) (xt xk xa xn xd yt yk ya yn yd : Int) :
    Calls Try.prog 6 #[.slice base k c, .agg #[.int .i64 xt, .int .i64 xk, .int .u32 xa, .int .i64 xn, .int .i64 xd], .agg #[.int .i64 yt, .int .i64 yk, .int .u32 ya, .int .i64 yn, .int .i64 yd]] w fun e w' => e = .returned (.bool true) ∧ Below w.heap.size w w' := by
  have t1 : decide ((40 : Int) < (k : Int)) = true := by simp; omega
  have HB1 := Lib.hid (show Below w.heap.size w ((w.alloc (.cells #[.int .i64 xt, .int .i64 xk, .int .u32 xa, .int .i64 xn, .int .i64 xd] 31)).alloc (.cells #[.int .i64 yt, .int .i64 yk, .int .u32 ya, .int .i64 yn, .int .i64 yd] 31)) from bthen (below1 _ _) (below1 _ _))
  go_enter Try.func6, Try.ntmps6
  go_wp2_with (go_at_call 8; (with_reducible refine (works_any _).mono ?_); rintro e w9 ⟨rfl, hb9⟩; have HB9 := Lib.hid hb9; clear hb9)
  go_ret
  exact ⟨rfl, bthen HB1.out HB9.out⟩
theorem TimersCopies_all (w : World) (base : Option Addr) (b o k c : Nat) (wt kd a n dd : Nat → Int) (h : ActsIn w base b o k wt kd a n dd) (hm : k ≤ 9223372036854775807) (xt xk xa xn xd yt yk ya yn yd : Int) (hx : KBt xk xa xn) (hy : KBt yk ya yn) :
    Calls Try.prog 6 #[.slice base k c, .agg #[.int .i64 xt, .int .i64 xk, .int .u32 xa, .int .i64 xn, .int .i64 xd], .agg #[.int .i64 yt, .int .i64 yk, .int .u32 ya, .int .i64 yn, .int .i64 yd]] w fun e w' => e = .returned (.bool true) ∧ Below w.heap.size w w' := by
  by_cases h1 : 40 < k
  · exact copies_more w base k c h1 hm xt xk xa xn xd yt yk ya yn yd
  · exact TimersCopies_any w base b o k c wt kd a n dd h (by omega) xt xk xa xn xd yt yk ya yn yd hx hy
end Go.Proofs.Ytkigoihdmojpfaa
