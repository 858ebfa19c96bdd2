/- NeighHolds: walk (begun). -/
import Derived.Test.YtahkhecfnimdbaaDoorK12
import Derived.Deep.LoopGhost
import Derived.Deep.DeepCutAuto
import Derived.Deep.QuietTactic
import Derived.BigQuiet
import Derived.RegionTactic
import Derived.Outline
import Derived.Deep.CutBlock
namespace Go.Proofs.YtahkhecfnimdbaaDoor
open Go.RowKit Go.Maps

def HRel (w : World) (p m la k : Nat) (n : Nat) (v6 v7 : Value) (wr : World) : Prop :=
  ∃ (i : Nat) (now : Int) (s : St) (L G : Nat → Int), n = k - i ∧ i ≤ k ∧ v6 = .int .i64 now ∧ v7 = .int .i64 i ∧ HW w wr p m la s L G i now

set_option maxHeartbeats 4000000 in
set_option maxRecDepth 100000 in
theorem holds_any (w : World) (hF : FB w) (b o k c : Nat) (what face bad addr more : Nat → Int) (hbw : b < w.heap.size) (hk : k ≤ 40) (had : ∀ i, 0 ≤ addr i ∧ addr i < 4294967296) (hl : ∀ i, i < k → ActIs w b (o + i * 5) (what i) (face i) (bad i) (addr i) (more i)) :
    Calls Tryd.prog 3 #[.slice (some ⟨b, o, none⟩) k c] w fun e w' => e = .returned (.bool true) ∧ Below w.heap.size w w' := by
  have t1 : decide ((40 : Int) < k) = false := by simp; omega
  have HF := Lib.hid hF
  have HL := Lib.hid hl
  have HAD := Lib.hid had
  clear hF hl had
  go_enter Tryd.func3, Tryd.ntmps3
  go_wp2_with (go_at_call 9; refine (New_nw _ HF.out).mono ?_; rintro e w1 ⟨⟨p, m, rfl, n0, hp, hm⟩, hb⟩; have N0 := Lib.hid n0; have HP := Lib.hid hp; have HM := Lib.hid hm; have HB := Lib.hid hb; clear n0 hp hm hb)
  have hb1 := HB.out.size
  go_loopg [6, 7] k (HRel w p m w1.heap.size k)
  case atStart => exact ⟨0, 0, ⟨[], 0, 0⟩, fun _ => 0, fun _ => 0, rfl, by omega, rfl, rfl, hstart N0.out HB.out HP.out HM.out⟩
  case round =>
    obtain ⟨i, now, s, L, G, hn, hik, rfl, rfl, hw⟩ := hrel
    have Hn := Lib.hid hn
    have HWI := Lib.hid hw
    clear hn hw
    by_cases hlt : i < k
    · have A := (HL.out i hlt).below HWI.out.bl hbw
      obtain ⟨a0, a1, a2, a3, a4⟩ := A
      obtain ⟨d0, d1⟩ := HAD.out i
      generalize hwt : what i = wt at *
      generalize hfc : face i = fc at *
      generalize hbd : bad i = bd at *
      generalize hae : addr i = ad at *
      generalize hmr : more i = mr at *
      clear hwt hfc hbd hae hmr
      go_upto_region 11 with fail
      go_cut [49] (fun s wx => s = .bool (!okB fc mr) ∧ wx = wr.alloc (.cells #[.int .i64 wt, .int .i64 fc, .int .i64 bd, .int .u32 ad, .int .i64 mr] 33))
      case first =>
        go_wp2_with fail
        all_goals (go_meet; exact ⟨congrArg Value.bool (by unfold okB; rw [Bool.eq_iff_iff]; simp; omega), rfl⟩)
      case rest =>
        obtain ⟨rfl, rfl⟩ := hcut
        cases hok : okB fc mr with
        | false =>
          go_wp2_with fail
          go_roundg (k - (i + 1))
          case measure => have := Hn.out; omega
          case rel => exact ⟨i + 1, now, s, L, G, rfl, by omega, rfl, by go_num, HWI.out.idle.below (below_k _ _)⟩
        | true =>
          have hok2 : 0 ≤ fc ∧ fc ≤ 3 ∧ 0 ≤ mr ∧ mr ≤ 1000 := of_decide_eq_true hok
          obtain ⟨f0, f1, m0, m1⟩ := hok2
          obtain ⟨F, rfl⟩ : ∃ F : Nat, fc = F := ⟨fc.toNat, by omega⟩
          have hF : F < 4 := by omega
          obtain ⟨A, hA⟩ : ∃ A : Nat, ad % 4 = A := ⟨(ad % 4).toNat, by omega⟩
          have hA4 : A < 4 := by omega
          have HA := Lib.hid hA
          clear hA f0 f1
          go_upto_region 12 with fail
          go_cut [9] (fun s wx => s = .int .i64 A ∧ wx = wr.alloc (.cells #[.int .i64 wt, .int .i64 F, .int .i64 bd, .int .u32 ad, .int .i64 mr] 33))
          case first =>
            go_wp2_with fail
            go_meet
            exact ⟨congrArg (Value.int .i64) HA.out, rfl⟩
          case rest =>
            obtain ⟨rfl, rfl⟩ := hcut
            go_upto_block 2 with fail
            go_cut [6] (SwRel w p m w1.heap.size i)
            case first => as_aux_lemma =>
              have HX := Lib.hid (HWI.out.below (below_k wr (.cells #[.int .i64 wt, .int .i64 F, .int .i64 bd, .int .u32 ad, .int .i64 mr] 33)))
              have XA := act_new wr wt F bd ad mr 33
              have ltX := HWI.out.ag.lt
              have hn0 := HX.out.inv.n0
              have hn1 := HX.out.inv.n1
              have hpl := HX.out.pl
              have hml := HX.out.ml
              generalize wr.alloc (.cells #[.int .i64 wt, .int .i64 F, .int .i64 bd, .int .u32 ad, .int .i64 mr] 33) = W1 at *
              generalize wr.heap.size = X at *
              have HXA := Lib.hid XA
              have x1 : W1.cell? ⟨X, 1, none⟩ = some (.int .i64 F) := XA.c1
              have x4 : W1.cell? ⟨X, 4, none⟩ = some (.int .i64 mr) := XA.c4
              clear XA a0 a1 a2 a3 a4 HWI hok
              go_step
              go_step
              go_cut [56] (fun s wx => s = .bool (hearB wt) ∧ wx = W1)
              case first => as_aux_lemma =>
                have hv : wt = 0 ∨ wt = 1 ∨ wt = 2 ∨ wt = 3 ∨ wt = 4 ∨ wt = 5 ∨ (wt ≠ 0 ∧ wt ≠ 1 ∧ wt ≠ 2 ∧ wt ≠ 3 ∧ wt ≠ 4 ∧ wt ≠ 5) := by omega
                rcases hv with rfl | rfl | rfl | rfl | rfl | rfl | ⟨v0, v1, v2, v3, v4, v5⟩
                · go_wp2_with fail; go_meet; exact ⟨rfl, rfl⟩
                · go_wp2_with fail; go_meet; exact ⟨rfl, rfl⟩
                · go_wp2_with fail; go_meet; exact ⟨rfl, rfl⟩
                · go_wp2_with fail; go_meet; exact ⟨rfl, rfl⟩
                · go_wp2_with fail; go_meet; exact ⟨rfl, rfl⟩
                · go_wp2_with fail; go_meet; exact ⟨rfl, rfl⟩
                · have hh : hearB wt = false := by unfold hearB; exact decide_eq_false (by omega)
                  have e0 : (wt == 0) = false := by simpa using v0
                  have e1 : (wt == 1) = false := by simpa using v1
                  have e2 : (wt == 2) = false := by simpa using v2
                  have e3 : (wt == 3) = false := by simpa using v3
                  have e4 : (wt == 4) = false := by simpa using v4
                  have e5 : (wt == 5) = false := by simpa using v5
                  go_wp2_with fail; go_meet; exact ⟨congrArg Value.bool hh.symm, rfl⟩
              case rest => as_aux_lemma =>
                obtain ⟨rfl, rfl⟩ := hcut
                cases hh : hearB wt with
                | true => as_aux_lemma =>
                  go_wp2_with (first
                    | (go_at_call 11; refine (HX.out.hear1 F A mr hF hA4 m0 m1 (by omega)).mono ?_; rintro e w5 ⟨rfl, n5, k5⟩; have y1 := k5.cell x1 (by simp; omega) (by simp; omega); have cL := (HX.out.kp k5 n5).2.1.c (F * 4 + A) (by omega); have fL := (HX.out.kp k5 n5).2.1.f (F * 4 + A); have N5 := Lib.hid n5; have K5 := Lib.hid k5; clear n5 k5)
                    | (go_at_call 10; refine (num_same _ _).mono ?_; rintro e w' ⟨rfl, rfl⟩))
                  have HS := Lib.hid (HX.out.hear2 F A mr hF hA4 m0 m1 (by omega) N5.out K5.out)
                  have y2 : (w5.setCell ⟨w1.heap.size, F * 4 + A, none⟩ (.int .i64 (now + mr))).cell? ⟨X, 1, none⟩ = some (.int .i64 F) := (grown_set w5 _ _ _).cell y1 (by simp; omega)
                  have cG := ((HX.out.kp K5.out N5.out).2.2.1.other (b' := w1.heap.size) (o := F * 4 + A) (v := .int .i64 (now + mr)) (by omega)).c (F * 4 + A) (by omega)
                  have fG := ((HX.out.kp K5.out N5.out).2.2.1.other (b' := w1.heap.size) (o := F * 4 + A) (v := .int .i64 (now + mr)) (by omega)).f (F * 4 + A)
                  have gb := HX.out.inv.g0 (F * 4 + A) (by omega)
                  obtain ⟨gb0, gb1⟩ := gb
                  clear y1 cL fL x1 x4
                  generalize w5.setCell ⟨w1.heap.size, F * 4 + A, none⟩ (.int .i64 (now + mr)) = W6 at *
                  go_region
                  go_wp2_with fail
                  go_meet
                  exact HS.out.below (below_drewN (Below.refl _ _) 1)
                | false => as_aux_lemma =>
                  by_cases h6 : wt = 6
                  · subst h6
                    go_wp2_with (go_at_call 12; refine (Forget_nw p m s F _ HX.out.nw).mono ?_; rintro e w5 ⟨rfl, n5, k5⟩; have y1 := k5.cell x1 (by simp; omega) (by simp; omega); have A5 := (HX.out.kp k5 n5).2.2.1; have c0 := A5.c (F * 4) (by omega); have c1 := A5.c (F * 4 + 1) (by omega); have c2 := A5.c (F * 4 + 2) (by omega); have c3 := A5.c (F * 4 + 3) (by omega); have f0 := A5.f (F * 4); have f1 := A5.f (F * 4 + 1); have f2 := A5.f (F * 4 + 2); have f3 := A5.f (F * 4 + 3); have N5 := Lib.hid n5; have K5 := Lib.hid k5; clear n5 k5 A5)
                    go_meet
                    exact HX.out.forget2 F hF N5.out K5.out
                  · by_cases h7 : wt = 7
                    · subst h7
                      go_wp2_with (go_at_call 13; refine (Since_nw p m s mr _ HX.out.nw).mono ?_; rintro e w5 ⟨rfl, n5, k5⟩; have N5 := Lib.hid n5; have K5 := Lib.hid k5; clear n5 k5)
                      go_loopg [10] 4 (SRel w p m w1.heap.size X ⟨sinceT mr s.T, s.now, s.lost⟩ L G mr (Inv s L G i now))
                      case atStart => exact ⟨0, rfl, by omega, rfl, HX.out.since1 mr N5.out K5.out ltX x4⟩
                      case round =>
                        obtain ⟨f, hn3, hf4, rfl, hw3⟩ := hrel
                        have HW3 := Lib.hid hw3
                        have Hn3 := Lib.hid hn3
                        clear hw3 hn3 x1 x4
                        by_cases hf : f < 4
                        · have hfd : decide ((f : Int) < 4) = true := by simp; omega
                          go_wp2_with fail
                          go_loopg [11] 4 (SRel2 w p m w1.heap.size X ⟨sinceT mr s.T, s.now, s.lost⟩ L G mr (Inv s L G i now) f)
                          case atStart => exact ⟨0, rfl, by omega, rfl, HW3.out⟩
                          case round => as_aux_lemma =>
                            obtain ⟨kk, hn4, hk4, rfl, hw4⟩ := hrel
                            have HW4 := Lib.hid hw4
                            have Hn4 := Lib.hid hn4
                            clear hw4 hn4 HW3
                            by_cases hkk : kk < 4
                            · have cL := HW4.out.al.c (f * 4 + kk) (by omega)
                              have x4 := HW4.out.x
                              have cG := HW4.out.ag.c (f * 4 + kk) (by omega)
                              have fG := HW4.out.ag.f (f * 4 + kk)
                              by_cases hl : L (f * 4 + kk) < mr
                              · go_wp2_with fail
                                go_quiet (fail)
                                go_wp2_with fail
                                go_roundg (4 - (kk + 1))
                                case measure => have := Hn4.out; omega
                                case rel => exact ⟨kk + 1, rfl, by omega, by go_num, (HW4.out.drewN _).strike hl (by omega)⟩
                              · have hl2 : decide (L (f * 4 + kk) < mr) = false := by simpa using hl
                                go_wp2_with fail
                                go_quiet (fail)
                                go_wp2_with fail
                                go_roundg (4 - (kk + 1))
                                case measure => have := Hn4.out; omega
                                case rel => exact ⟨kk + 1, rfl, by omega, by go_num, (HW4.out.drewN _).keep (by omega)⟩
                            · obtain rfl : kk = 4 := by omega
                              go_wp2_with fail
                              go_roundg (4 - (f + 1))
                              case measure => have := Hn3.out; omega
                              case rel => exact ⟨f + 1, rfl, by omega, by go_num, by rw [Nat.add_mul]; exact HW4.out⟩
                        · obtain rfl : f = 4 := by omega
                          go_wp2_with fail
                          go_meet
                          exact HW3.out.since2 HX.out.hp HX.out.hm
                    · have e6 : (wt == 6) = false := by simpa using h6
                      have e7 : (wt == 7) = false := by simpa using h7
                      go_wp2_with fail
                      go_meet
                      exact ⟨now, s, L, G, rfl, HX.out.idle⟩
            case rest => as_aux_lemma =>
              obtain ⟨now2, s2, L2, G2, rfl, hw2⟩ := hcut
              have HW2 := Lib.hid hw2
              clear hw2 a0 a1 a2 a3 a4 HWI hok
              go_wp2_with fail
              go_loopg [12, 13] 4 (CntRel w p m w1.heap.size s2 L2 G2 (i + 1) now2)
              case atStart => exact ⟨0, rfl, by omega, rfl, rfl, HW2.out⟩
              case round =>
                obtain ⟨f, hn3, hf4, rfl, rfl, hw3⟩ := hrel
                have HW3 := Lib.hid hw3
                have Hn3 := Lib.hid hn3
                clear hw3 hn3 HW2
                have hcl := cntG_le G2 (f * 4)
                by_cases hf : f < 4
                · have hfd : decide ((f : Int) < 4) = true := by simp; omega
                  go_wp2_with fail
                  go_loopg [12, 14] 4 (CntRel2 w p m w1.heap.size s2 L2 G2 (i + 1) now2 f)
                  case atStart => exact ⟨0, rfl, by omega, rfl, rfl, HW3.out⟩
                  case round => as_aux_lemma =>
                    obtain ⟨kk, hn4, hk4, rfl, rfl, hw4⟩ := hrel
                    have HW4 := Lib.hid hw4
                    have Hn4 := Lib.hid hn4
                    clear hw4 hn4 HW3
                    have hcl2 := cntG_le G2 (f * 4 + kk)
                    by_cases hkk : kk < 4
                    · by_cases hg : 0 < G2 (f * 4 + kk)
                      · go_wp2_with (go_at_call 14; refine (HW4.out.get_yes f kk hf hkk hg).mono ?_; rintro e w5 ⟨x, y, z, rfl, hb5⟩; have HW5 := Lib.hid (HW4.out.below hb5); have cG := HW5.out.ag.c (f * 4 + kk) (by omega); have cL := HW5.out.al.c (f * 4 + kk) (by omega); have lt5 := HW5.out.ag.lt; have lt6 := HW5.out.al.lt; clear hb5)
                        go_quiet (fail)
                        go_wp2_with fail
                        go_roundg (4 - (kk + 1))
                        case measure => have := Hn4.out; omega
                        case rel => exact ⟨kk + 1, rfl, by omega, by go_num, by rw [← Nat.add_assoc, cntG_yes hg]; go_num, HW5.out.below (below_drewN (below_k _ _) _)⟩
                      · go_wp2_with (go_at_call 14; refine (HW4.out.get_no f kk hf hkk hg).mono ?_; rintro e w5 ⟨rfl, hb5⟩; have HW5 := Lib.hid (HW4.out.below hb5); have cG := HW5.out.ag.c (f * 4 + kk) (by omega); have cL := HW5.out.al.c (f * 4 + kk) (by omega); have lt5 := HW5.out.ag.lt; have lt6 := HW5.out.al.lt; clear hb5)
                        have hg2 : decide (0 < G2 (f * 4 + kk)) = false := by simpa using hg
                        go_quiet (fail)
                        go_wp2_with fail
                        go_roundg (4 - (kk + 1))
                        case measure => have := Hn4.out; omega
                        case rel => exact ⟨kk + 1, rfl, by omega, by go_num, by rw [← Nat.add_assoc, cntG_no (by omega)], HW5.out.below (below_drewN (below_k _ _) _)⟩
                    · obtain rfl : kk = 4 := by omega
                      go_wp2_with fail
                      go_roundg (4 - (f + 1))
                      case measure => have := Hn3.out; omega
                      case rel => exact ⟨f + 1, rfl, by omega, by go_num, by rw [Nat.add_mul], HW4.out⟩
                · obtain rfl : f = 4 := by omega
                  go_wp2_with (go_at_call 15; refine (HW3.out.len).mono ?_; rintro e w' ⟨rfl, rfl⟩)
                  go_roundg (k - (i + 1))
                  case measure => have := Hn.out; omega
                  case rel => exact ⟨i + 1, now2, s2, L2, G2, rfl, by omega, rfl, by go_num, HW3.out⟩
    · go_wp2_with (go_at_call 8; refine (works_any _ HWI.out.nw.fb).mono ?_; rintro e w9 ⟨rfl, hb9⟩; have HB9 := Lib.hid hb9; clear hb9)
      go_ret
      exact ⟨rfl, HWI.out.bl.trans (HB9.out.mono HWI.out.bl.size)⟩
end Go.Proofs.YtahkhecfnimdbaaDoor
