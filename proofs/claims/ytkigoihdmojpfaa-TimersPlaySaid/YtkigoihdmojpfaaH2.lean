/- TimersPlay: the walk. (Printed by gen_h2.py.) -/
import Derived.Test.YtkigoihdmojpfaaG9
namespace Go.Proofs.Ytkigoihdmojpfaa
open Go.RowKit
open Go.Sort (grow)

def tpRel (w : World) (B k m : Nat) (v3 v5 : Value) (wr : World) : Prop :=
  ∃ (i q : Nat) (F : List Nat) (S : List TR) (g : Nat) (b : Option Addr) (c : Nat), m = k - i ∧ i ≤ k ∧ v3 = .pointer (some ⟨q, 0, none⟩) ∧ v5 = .int .i64 i ∧ PT w wr B q F S g b c ∧ S.length ≤ i
/-- what is given of a call that came in -/
theorem ActsIn.get {w W : World} {base : Option Addr} {b o k : Nat} {wt kd a n d : Nat → Int} (h : ActsIn w base b o k wt kd a n d) (hb : Below w.heap.size w W) {i : Nat} (hi : i < k) : ActIs W b (o + i * 5) (wt i) (kd i) (a i) (n i) (d i) := (h.below hb).c i hi
theorem Check_g (k a n : Int) (W : World) (d : Nat) (os : Array Obj) : Calls Try.prog 16 #[keyV k a n] (grow (redrawn W d) os) fun e w' => e = .returned (.int .i64 (chkT k a n)) ∧ ∃ p : Regrown, w' = grow (redrawn W p.d) p.os :=
  Calls.regrown_of (CheckT_any k a n _)
theorem num_g (x : Int) (W : World) (d : Nat) (os : Array Obj) : Calls Try.prog 15 #[.int .i64 x] (grow (redrawn W d) os) fun e w' => e = .returned (.int .i64 x) ∧ ∃ p : Regrown, w' = grow (redrawn W p.d) p.os :=
  Calls.regrown_of ((num_any x _).mono fun _ _ ⟨he, hw⟩ => ⟨he, by subst hw; exact Below.refl _ _⟩)
theorem rRightT_g (k a n : Int) (a0 : 0 ≤ a) (a1 : a < 4294967296) (W : World) (d : Nat) (os : Array Obj) : Calls Try.prog 17 #[keyV k a n] (grow (redrawn W d) os) fun e w' => e = .returned (.bool (rightT k a n)) ∧ ∃ p : Regrown, w' = grow (redrawn W p.d) p.os :=
  Calls.regrown_of (rRightT_any k a n _ a0 a1)
theorem is_g (w0 : World) (q g : Nat) (F : List Nat) (S : List TR) (v : Value) (W : World) (h : PW w0 W q F S g v) (hl : S.length < 1000) (d : Nat) (os : Array Obj) : Calls Try.prog 18 #[.pointer (some ⟨q, 0, none⟩), v] (grow (redrawn W d) os) fun e w' => e = .returned (.bool true) ∧ ∃ p : Regrown, w' = grow (redrawn W p.d) p.os :=
  Calls.regrown_of (is_any w0 q g F S v _ (h.below (below_regrown W d os)) hl)

set_option maxRecDepth 100000 in
set_option maxHeartbeats 16000000 in
theorem TimersPlay_any (w : World) (base : Option Addr) (b o k c : Nat) (wt kd a n dd : Nat → Int) (h : ActsIn w base b o k wt kd a n dd) (hk : k ≤ 60) :
    Calls Try.prog 4 #[.slice base k c] w fun e w' => e = .returned (.bool true) ∧ Below w.heap.size w w' := by
  have t1 : decide ((60 : Int) < (k : Int)) = false := by simp; omega
  have HI := Lib.hid h
  clear h
  go_enter Try.func4, Try.ntmps4
  go_upto_region 4 with (first
    | (go_at_call 9; (with_reducible refine (New_o _).mono ?_); rintro e w1 ⟨q0, rfl, hq⟩; have HQ := Lib.hid hq; clear hq)
    | fail)
  obtain ⟨F0, hPT⟩ := PT.start HQ.out
  have HPT := Lib.hid hPT
  obtain ⟨B, hB⟩ : ∃ B, B = w1.heap.size := ⟨_, rfl⟩
  rw [← hB] at HPT ⊢
  clear hPT t1 HQ hB
  generalize (w1.alloc (.cells #[.slice none 0 0] 37)) = X0 at *
  go_wp2_with fail
  go_loopg [3, 5] k (tpRel w B k)
  case atStart => exact ⟨0, q0, F0, [], B, none, 0, rfl, by omega, rfl, rfl, HPT.out, by simp⟩
  case round =>
    clear HPT
    obtain ⟨i, q, F, S, g, sb, sc, hn, hik, rfl, rfl, hpt, hlen⟩ := hrel
    have Hn := Lib.hid hn
    have HPt := Lib.hid hpt
    clear hn hpt
    by_cases hlt : i < k
    · have hin := HI.out.below HPt.out.pw.bl
      obtain rfl := hin.is (by omega)
      obtain ⟨a0, a1, a2, a3, a4⟩ := hin.c i hlt
      have hBd := hin.bd i
      have hKb := hBd.k
      obtain ⟨d0, d1⟩ := hKb.2.1
      have hbl := HI.out.lt (by omega)
      have HLc := Lib.hid (show ∀ W', Below w.heap.size w W' → W'.cell? ⟨b, o + i * 5 + 1, none⟩ = some (.int .i64 (kd i)) ∧ W'.cell? ⟨b, o + i * 5 + 2, none⟩ = some (.int .u32 (a i)) ∧ W'.cell? ⟨b, o + i * 5 + 3, none⟩ = some (.int .i64 (n i)) from fun W' hb => ⟨(HI.out.get hb hlt).c1, (HI.out.get hb hlt).c2, (HI.out.get hb hlt).c3⟩)
      generalize hwt : wt i = wt' at *
      generalize hfk : kd i = k' at *
      generalize hfc : a i = a' at *
      generalize hbd : n i = n' at *
      generalize hae : dd i = x' at *
      have HKb := Lib.hid hKb
      clear hwt hfk hfc hbd hae hBd hin hKb
      have HA := Lib.hid (act_any w q g F S _ wt' k' a' n' x' wr.drew (HPt.out.pw.below (Below.refl _ _).drew) HKb.out (by omega))
      have HA2 := Lib.hid (act_any w q g F S _ wt' k' a' n' x' (wr.alloc (.cells #[.slice none 0 0] 37)).drew (HPt.out.pw.below ((below1 wr _).drew)) HKb.out (by omega))
      have c4 := HPt.out.b4.c
      have i1 : (0 : Int) ≤ (i : Int) := by omega
      have i2 : (i : Int) < (k : Int) := by omega
      have hwsz := HPt.out.pw.bl.size
      have h4l := HPt.out.lt
      have HNb := Lib.hid (show b ∉ F from fun hm => by have := HPt.out.pw.ge b hm; omega)
      go_upto_region 7 with fail
      go_cut [6, 7, 8] (R7 w wr q F S g)
      case first => as_aux_lemma =>
        have x1 : wr.heap.size ≠ B := by omega
        have x2 : B ≠ wr.heap.size := by omega
        have x3 : wr.heap.size ≠ b := by omega
        have x4 : b ≠ wr.heap.size := by omega
        have x5 : b < wr.heap.size := by omega
        go_region_held3 (fun w' => w'.cell? ⟨b, o + i * 5, none⟩ = some (.int .i64 wt') ∧ w'.cell? ⟨b, o + i * 5 + 1, none⟩ = some (.int .i64 k') ∧ w'.cell? ⟨b, o + i * 5 + 2, none⟩ = some (.int .u32 a') ∧ w'.cell? ⟨b, o + i * 5 + 3, none⟩ = some (.int .i64 n') ∧ w'.cell? ⟨b, o + i * 5 + 4, none⟩ = some (.int .i64 x') ∧ w'.cell? ⟨B, 0, none⟩ = some (.slice sb S.length sc))
          (first | exact ⟨a0, a1, a2, a3, a4, c4⟩ | exact ⟨(set_far x4).trans a0, (set_far x4).trans a1, (set_far x4).trans a2, (set_far x4).trans a3, (set_far x4).trans a4, (set_far x2).trans c4⟩ | go_keep)
          (first
            | (((with_reducible refine HA.out.mono ?_)); rintro e w2 ⟨q', F', S', g', v', rfl, hA, hl2⟩; obtain ⟨b', c', rfl, _, _⟩ := hA.pw.rt.ex; have hA1 := hA.pre (w := wr) (Below.refl _ _).drew; have hbb := hA1.kb.block b x5 HNb.out; have h44 := hA1.kb.block _ h4l HPt.out.nb; have hs2 := hA1.kb.size; have y5 : b < w2.heap.size := (by omega); have y6 : B < w2.heap.size := (by omega); have a0 := (World.cell?_of_block (w := wr) (a := ⟨b, o + i * 5, none⟩) hbb).trans a0; have a1 := (World.cell?_of_block (w := wr) (a := ⟨b, o + i * 5 + 1, none⟩) hbb).trans a1; have a2 := (World.cell?_of_block (w := wr) (a := ⟨b, o + i * 5 + 2, none⟩) hbb).trans a2; have a3 := (World.cell?_of_block (w := wr) (a := ⟨b, o + i * 5 + 3, none⟩) hbb).trans a3; have a4 := (World.cell?_of_block (w := wr) (a := ⟨b, o + i * 5 + 4, none⟩) hbb).trans a4; have c4 := (World.cell?_of_block (w := wr) (a := ⟨B, 0, none⟩) h44).trans c4; have HR7 := Lib.hid (R7.late hA hl2); clear hA hA1 hbb h44 hl2 hs2)
            | (((with_reducible refine HA2.out.mono ?_)); rintro e w2 ⟨q', F', S', g', v', rfl, hA, hl2⟩; obtain ⟨b', c', rfl, _, _⟩ := hA.pw.rt.ex; have hA1 := hA.pre (w := wr) ((below1 wr _).drew); have hbb := hA1.kb.block b x5 HNb.out; have h44 := hA1.kb.block _ h4l HPt.out.nb; have hX := hA.kb.block wr.heap.size (by show _ < (wr.alloc _).heap.size; simp) (fun hm => by have := HPt.out.pw.qu.foot_lt _ hm; omega); have hX1 : OneB w2 wr.heap.size (.slice none 0 0) 37 := hX.trans (OneB.new wr _ _); have e0 := hX1.c; have e1 := hX1.f; have a0 := (World.cell?_of_block (w := wr) (a := ⟨b, o + i * 5, none⟩) hbb).trans a0; have a1 := (World.cell?_of_block (w := wr) (a := ⟨b, o + i * 5 + 1, none⟩) hbb).trans a1; have a2 := (World.cell?_of_block (w := wr) (a := ⟨b, o + i * 5 + 2, none⟩) hbb).trans a2; have a3 := (World.cell?_of_block (w := wr) (a := ⟨b, o + i * 5 + 3, none⟩) hbb).trans a3; have a4 := (World.cell?_of_block (w := wr) (a := ⟨b, o + i * 5 + 4, none⟩) hbb).trans a4; have c4 := (World.cell?_of_block (w := wr) (a := ⟨B, 0, none⟩) h44).trans c4; have HR7 := Lib.hid (R7.early HPt.out.pw hA hl2); clear hA hA1 hbb h44 hl2 hX hX1))
        all_goals
          clear a0 a1 a2 a3 a4 c4
          go_wp2_with fail
          go_meet
          exact HR7.out
      case rest =>
        obtain ⟨q', F', S', g', X, b', c', rfl, rfl, rfl, hX, hXl, hA, hl2⟩ := hcut
        have HX := Lib.hid hX
        have y0 := hX.c
        have h44 := hA.kb.block _ h4l HPt.out.nb
        have hb4 : OneB wc B (.slice sb S.length sc) 37 := h44.trans HPt.out.b4
        have e0 := hb4.c
        have f0 := hb4.f
        have hXB : X ≠ B := by omega
        have HST := Lib.hid (HPt.out.act hA)
        clear hX hA h44 hb4 HA HA2 a0 a1 a2 a3 a4 c4
        go_upto_region 8 with fail
        go_region_held3 (fun w' => w'.cell? ⟨X, 0, none⟩ = some (.slice b' S'.length c'))
          (first | exact (set_far hXB).trans y0 | go_keep) (fail)
        all_goals
          clear y0 e0 f0
          have HW4 := Lib.hid (HST.out.below ((Below.refl _ _).drew))
          clear HST
          generalize (wc.setCell ⟨B, 0, none⟩ (.slice b' S'.length c')).drew = W4 at *
          obtain ⟨m1, m2, m3⟩ := HLc.out _ HW4.out.pw.bl
          have HGt := Lib.hid (Due_any q' F' S' k' a' n' W4 HW4.out.pw.qu HKb.out (by omega))
          have HAt := Lib.hid (fun W (hb : Below W4.heap.size W4 W) => rDue_any _ g' S' k' a' n' W (HW4.out.pw.rt.below hb) (by omega))
          unfold keyV at HGt HAt
          obtain ⟨was, hwas⟩ : ∃ x, x = (dueS S' k' a' n').1 := ⟨_, rfl⟩
          obtain ⟨had, hhad⟩ : ∃ x, x = (dueS S' k' a' n').2 := ⟨_, rfl⟩
          rw [← hwas, ← hhad] at HGt HAt
          clear hwas hhad
          go_upto_region 10 with (first
            | (go_at_call 13; (with_reducible refine HGt.out.mono ?_); rintro e w5 ⟨rfl, hb⟩; have HB5 := Lib.hid hb; clear hb m1 m2 m3)
            | fail)
          obtain ⟨m1, m2, m3⟩ := HLc.out _ (bthen HW4.out.pw.bl HB5.out)
          have c4 := (HW4.out.below HB5.out).b4.c
          go_region_held3 (fun w' => w'.cell? ⟨b, o + i * 5 + 1, none⟩ = some (.int .i64 k') ∧ w'.cell? ⟨b, o + i * 5 + 2, none⟩ = some (.int .u32 a') ∧ w'.cell? ⟨b, o + i * 5 + 3, none⟩ = some (.int .i64 n') ∧ w'.cell? ⟨B, 0, none⟩ = some (.slice b' S'.length c'))
            (first | exact ⟨m1, m2, m3, c4⟩ | go_keep)
            ((go_at_call 14; (with_reducible refine (HAt.out _ (HB5.out.drew)).mono ?_); rintro e w6 ⟨rfl, hb⟩; have HB6 := Lib.hid (bthen HB5.out.drew hb); clear hb m1 m2 m3 c4; obtain ⟨m1, m2, m3⟩ := HLc.out _ (bthen HW4.out.pw.bl HB6.out); have c4 := (HW4.out.below HB6.out).b4.c))
          all_goals
            have HW6 := Lib.hid (HW4.out.below HB6.out)
            have r1 := cell_regrown m1
            have r2 := cell_regrown m2
            have r3 := cell_regrown m3
            have r4 := cell_regrown c4
            have HIs := Lib.hid (is_g w q' g' F' S' _ w6 HW6.out.pw (by omega))
            have HCk := Lib.hid (Check_g k' a' n' w6)
            have HRt := Lib.hid (rRightT_g k' a' n' d0 d1 w6)
            unfold keyV chkT at HCk
            unfold keyV at HRt
            clear m1 m2 m3 c4 HGt HAt
            have i60 : (i : Int) < 60 := by omega
            by_cases hi4 : i % 4 = 3
            · have t7 : ((i : Int) % 4 == 3) = true := by (simp; omega)
              cases hrr : rightT k' a' n' with
              | true =>
                rw [hrr] at HCk HRt
                clear hrr
                go_upto_region 11 with fail
                refine wp_region_quiet_below (by kernel_rfl) (by kernel_rfl) ?_
                repeat (first
                  | go_big_quiet_step ((first | exact HCk.out _ _ | exact num_g _ _ _ _ | exact HRt.out _ _ | exact HIs.out _ _))
                  | quiet_step ((first | exact HCk.out _ _ | exact num_g _ _ _ _ | exact HRt.out _ _ | exact HIs.out _ _)))
                refine wpQuiet_nil ?_
                intro _ hw'
                obtain ⟨⟨dq, osq⟩, hw''⟩ := hw'
                subst hw''
                go_wp2_with fail
                go_roundg (k - (i + 1))
                case measure => have := Hn.out; omega
                case rel => exact ⟨i + 1, q', F', S', g', b', c', rfl, by omega, rfl, by go_num, HW6.out.below (below_regrown _ _ _), by omega⟩
              | false =>
                rw [hrr] at HCk HRt
                clear hrr
                go_upto_region 11 with fail
                refine wp_region_quiet_below (by kernel_rfl) (by kernel_rfl) ?_
                repeat (first
                  | go_big_quiet_step ((first | exact HCk.out _ _ | exact num_g _ _ _ _ | exact HRt.out _ _ | exact HIs.out _ _))
                  | quiet_step ((first | exact HCk.out _ _ | exact num_g _ _ _ _ | exact HRt.out _ _ | exact HIs.out _ _)))
                refine wpQuiet_nil ?_
                intro _ hw'
                obtain ⟨⟨dq, osq⟩, hw''⟩ := hw'
                subst hw''
                go_wp2_with fail
                go_roundg (k - (i + 1))
                case measure => have := Hn.out; omega
                case rel => exact ⟨i + 1, q', F', S', g', b', c', rfl, by omega, rfl, by go_num, HW6.out.below (below_regrown _ _ _), by omega⟩
            · have t7 : ((i : Int) % 4 == 3) = false := by (simp; omega)
              cases hrr : rightT k' a' n' with
              | true =>
                rw [hrr] at HCk HRt
                clear hrr
                go_upto_region 11 with fail
                refine wp_region_quiet_below (by kernel_rfl) (by kernel_rfl) ?_
                repeat (first
                  | go_big_quiet_step ((first | exact HCk.out _ _ | exact num_g _ _ _ _ | exact HRt.out _ _ | exact HIs.out _ _))
                  | quiet_step ((first | exact HCk.out _ _ | exact num_g _ _ _ _ | exact HRt.out _ _ | exact HIs.out _ _)))
                refine wpQuiet_nil ?_
                intro _ hw'
                obtain ⟨⟨dq, osq⟩, hw''⟩ := hw'
                subst hw''
                go_wp2_with fail
                go_roundg (k - (i + 1))
                case measure => have := Hn.out; omega
                case rel => exact ⟨i + 1, q', F', S', g', b', c', rfl, by omega, rfl, by go_num, HW6.out.below (below_regrown _ _ _), by omega⟩
              | false =>
                rw [hrr] at HCk HRt
                clear hrr
                go_upto_region 11 with fail
                refine wp_region_quiet_below (by kernel_rfl) (by kernel_rfl) ?_
                repeat (first
                  | go_big_quiet_step ((first | exact HCk.out _ _ | exact num_g _ _ _ _ | exact HRt.out _ _ | exact HIs.out _ _))
                  | quiet_step ((first | exact HCk.out _ _ | exact num_g _ _ _ _ | exact HRt.out _ _ | exact HIs.out _ _)))
                refine wpQuiet_nil ?_
                intro _ hw'
                obtain ⟨⟨dq, osq⟩, hw''⟩ := hw'
                subst hw''
                go_wp2_with fail
                go_roundg (k - (i + 1))
                case measure => have := Hn.out; omega
                case rel => exact ⟨i + 1, q', F', S', g', b', c', rfl, by omega, rfl, by go_num, HW6.out.below (below_regrown _ _ _), by omega⟩
    · obtain rfl : i = k := by omega
      have c4 := HPt.out.b4.c
      have HIs := Lib.hid (is_any w q g F S _ wr HPt.out.pw (by omega))
      go_wp2_with (first
        | (go_at_call 18; (with_reducible refine HIs.out.mono ?_); rintro e w2 ⟨rfl, hb⟩; have HB := Lib.hid hb; clear hb c4)
        | (go_at_call 8; (with_reducible refine (works_any _).mono ?_); rintro e w3 ⟨rfl, hb⟩; have HB2 := Lib.hid hb; clear hb)
        | fail)
      go_ret
      exact ⟨rfl, bthen HPt.out.pw.bl (bthen HB.out HB2.out)⟩

set_option maxRecDepth 100000 in
set_option maxHeartbeats 4000000 in
theorem plays_more (w : World) (base : Option Addr) (k c : Nat) (hk : 60 < k) (hm : k ≤ 9223372036854775807) :
    Calls Try.prog 4 #[.slice base k c] w fun e w' => e = .returned (.bool true) ∧ Below w.heap.size w w' := by
  have t1 : decide ((60 : Int) < (k : Int)) = true := by simp; omega
  go_enter Try.func4, Try.ntmps4
  go_wp2_with (go_at_call 8; (with_reducible refine (works_any _).mono ?_); rintro e w9 ⟨rfl, hb9⟩; have HB9 := Lib.hid hb9; clear hb9)
  go_ret
  exact ⟨rfl, HB9.out⟩
theorem TimersPlay_all (w : World) (base : Option Addr) (b o k c : Nat) (wt kd a n dd : Nat → Int) (h : ActsIn w base b o k wt kd a n dd) (hm : k ≤ 9223372036854775807) :
    Calls Try.prog 4 #[.slice base k c] w fun e w' => e = .returned (.bool true) ∧ Below w.heap.size w w' := by
  by_cases h1 : 60 < k
  · exact plays_more w base k c h1 hm
  · exact TimersPlay_any w base b o k c wt kd a n dd h (by omega)
end Go.Proofs.Ytkigoihdmojpfaa
