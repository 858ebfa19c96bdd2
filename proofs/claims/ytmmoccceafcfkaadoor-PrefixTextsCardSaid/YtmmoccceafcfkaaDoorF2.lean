/- Contract: the reference's Parse of layer 2. -/
import Derived.Test.YtmmoccceafcfkaaDoorF1
import Derived.Test.YtmmoccceafcfkaaDoorE4
namespace Go.Proofs.YtmmoccceafcfkaaDoor
open Go.RowKit
open Go.Sort (grow)

theorem tail_eq (s : ByteArray) (e k : Nat) : ((s.extract e s.size).toList == ((⟨#[47]⟩ : ByteArray) ++ ⟨(Lib.decDigits k).toArray⟩).toList) = decide (s.data.toList.drop e = 47 :: Lib.decDigits k) := by
  rw [Lib.toList_data, Lib.toList_data, Lib.extract_to_end, show (⟨#[47]⟩ : ByteArray) = ⟨[47].toArray⟩ from rfl, app_bytes]
  rw [Bool.eq_iff_iff]
  simp

set_option maxRecDepth 100000 in
set_option maxHeartbeats 2000000 in
theorem rPParse_any (s : ByteArray) (w : World) (hs : s.size ≤ 1000000000000000) (ht : Pow w) :
    Calls Tryd.prog 48 #[.string s] w fun e w' => e = .returned (resP (pfxS s.data.toList)) ∧ Below w.heap.size w w' := by
  have HT := Lib.hid ht
  clear ht
  generalize hr : pfxS s.data.toList = r
  obtain ⟨a, e0, ok, hq⟩ : ∃ a e0 ok, headS s.data.toList 0 = (a, e0, ok) := ⟨_, _, _, rfl⟩
  have hHead : ∀ W : World, Calls Tryd.prog 69 #[.string s, .int .i64 0] W fun e w' => e = .returned (.tuple #[.int .u32 a, .int .i64 e0, .bool ok]) ∧ W = w' := by
    intro W
    refine (Head_any s 0 W hs (Nat.zero_le _)).mono ?_
    rintro e w' ⟨he, hw⟩
    rw [hq] at he
    exact ⟨he, hw⟩
  have HH := Lib.hid hHead
  clear hHead
  have Hq := Lib.hid hq
  have Hr := Lib.hid hr
  clear hr hq
  cases ok with
  | false =>
    obtain rfl : r = none := by
      rw [← Hr.out]
      refine ref_miss _ fun a' e' h => ?_
      rw [Hq.out] at h; cases h
    go_enter Tryd.func48, Tryd.ntmps48
    go_wp2_with fail
    refine (HH.out _).mono ?_
    rintro e w1 ⟨rfl, rfl⟩
    go_wp2_with fail
    refine bodyPost_ret (v := .tuple #[.agg #[.int .u32 0, .int .i64 0], .int .i64 120]) (by simp [results, Tryd.results48, go_sem]) rfl ⟨rfl, ?_⟩
    exact (Below.refl _ _).alloc (Nat.le_refl _) _
  | true =>
    obtain ⟨a0, a1, hs1, he⟩ := head_read _ _ _ Hq.out
    have hle : e0 ≤ s.size := by simpa using he
    have HS1 := Lib.hid hs1
    clear hs1 he
    go_enter Tryd.func48, Tryd.ntmps48
    go_wp2_with fail
    refine (HH.out _).mono ?_
    rintro e w1 ⟨rfl, rfl⟩
    go_wp2_with fail
    have P := PBox.new w 0 0
    have hB : Below w.heap.size w (w.alloc (Obj.cells #[Value.int IntKind.u32 0, Value.int IntKind.i64 0] 25)) := (Below.refl _ _).alloc (Nat.le_refl _) _
    generalize w.alloc (Obj.cells #[Value.int IntKind.u32 0, Value.int IntKind.i64 0] 25) = W at *
    go_loopw [7] (fun i wr => ∃ k : Nat, k ≤ 33 ∧ i = .int .i64 k ∧ (∀ j, j < k → ¬ refCond s.data.toList a e0 j) ∧ PBox wr w.heap.size 0 0 ∧ Below w.heap.size w wr) (fun i _ => (33 - intOf i).toNat)
    case atStart => exact ⟨0, by omega, rfl, fun j hj => by omega, P, hB⟩
    case round =>
      obtain ⟨k, hk, rfl, hall, P1, B1⟩ := hrel
      have HA := Lib.hid hall
      clear hall
      by_cases hlt : k ≤ 32
      · have Pn := PBox.new wr a k
        have P2 := P1.alloc (Obj.cells #[Value.int IntKind.u32 a, Value.int IntKind.i64 k] 25)
        have B2 := B1.alloc B1.size (Obj.cells #[Value.int IntKind.u32 a, Value.int IntKind.i64 k] 25)
        clear P1 B1 P hB
        go_wp2_with fail
        generalize wr.alloc (Obj.cells #[Value.int IntKind.u32 a, Value.int IntKind.i64 k] 25) = W2 at *
        have d0 := cell_regrown Pn.c0
        have d1 := cell_regrown Pn.c1
        have HP := Lib.hid (tabBelow HT.out B2)
        have HP2 := Lib.hid P2
        have HB2 := Lib.hid B2
        have HPn := Lib.hid Pn
        clear P2 B2 Pn
        have l1 := decDigits_len k (by omega)
        have n0 : ¬ 9223372036854775807 < 1 + (Lib.decDigits k).length := by omega
        have i0 : (0 : Int) ≤ (e0 : Int) := by omega
        have i1 : (e0 : Int) ≤ (s.size : Int) := by omega
        have te := tail_eq s e0 k
        by_cases c1 : s.data.toList.drop e0 = 47 :: Lib.decDigits k
        · rw [decide_eq_true c1] at te
          cases c2 : rightB a k with
          | true =>
            have HF := Lib.hid (ref_hit _ a e0 k Hq.out hlt ⟨c1, c2⟩)
            have HR := Lib.hid c2
            clear c1 c2
            refine wp_region_quiet_below (by kernel_rfl) (by kernel_rfl) ?_
            repeat (go_big_quiet_step (first | exact Itoa_part _ _ _ _ (by omega) HP.out | exact Calls.regrown_of (rRight_lit _ _ _ true a0 a1 HR.out)))
            refine wpQuiet_nil ?_
            intro _ hw'
            obtain ⟨⟨dq, osq⟩, hw''⟩ := hw'
            subst hw''
            have P2 := HP2.out.below (below_regrown _ dq osq)
            have Pn := HPn.out.below (below_regrown _ dq osq)
            have B2 := bthen HB2.out (below_regrown _ dq osq)
            clear d0 d1 te
            generalize grow (redrawn W2 dq) osq = W3 at *
            have g0 := Pn.c0
            have g1 := Pn.c1
            have f0 := P2.f0
            have f1 := P2.f1
            have h0 := P2.c0
            have h1 := P2.c1
            go_wp2_with fail
            have p2 := P2.set a k
            have b2 := (B2.setCell (p := ⟨w.heap.size, 0, none⟩) (by simp) (.int .u32 a)).setCell (p := ⟨w.heap.size, 1, none⟩) (by simp) (.int .i64 k)
            generalize (W3.setCell ⟨w.heap.size, 0, none⟩ (.int .u32 a)).setCell ⟨w.heap.size, 1, none⟩ (.int .i64 k) = W4 at *
            have q0 := p2.c0
            have q1 := p2.c1
            refine bodyPost_ret (v := .tuple #[.agg #[.int .u32 a, .int .i64 k], .int .i64 0]) (by simp [results, Tryd.results48, go_sem, q0, q1]) rfl ⟨?_, b2⟩
            rw [← Hr.out, HF.out]; rfl
          | false =>
            have HN := Lib.hid (show ¬ refCond s.data.toList a e0 k from fun h => by rw [h.2] at c2; cases c2)
            have HR := Lib.hid c2
            clear c1 c2
            refine wp_region_quiet_below (by kernel_rfl) (by kernel_rfl) ?_
            repeat (go_big_quiet_step (first | exact Itoa_part _ _ _ _ (by omega) HP.out | exact Calls.regrown_of (rRight_lit _ _ _ false a0 a1 HR.out)))
            refine wpQuiet_nil ?_
            intro _ hw'
            obtain ⟨⟨dq, osq⟩, hw''⟩ := hw'
            subst hw''
            go_wp2_with fail
            go_roundw
            case rel => exact ⟨k + 1, by omega, by go_num, fun j hj => by
              by_cases hjk : j = k
              · rw [hjk]; exact HN.out
              · exact HA.out j (by omega), HP2.out.below (below_regrown _ dq osq), bthen HB2.out (below_regrown _ dq osq)⟩
            case measure => simp [intOf]; omega
        · rw [decide_eq_false c1] at te
          have HN := Lib.hid (show ¬ refCond s.data.toList a e0 k from fun h => c1 h.1)
          clear c1
          refine wp_region_quiet_below (by kernel_rfl) (by kernel_rfl) ?_
          repeat (go_big_quiet_step (first | exact Itoa_part _ _ _ _ (by omega) HP.out))
          refine wpQuiet_nil ?_
          intro _ hw'
          obtain ⟨⟨dq, osq⟩, hw''⟩ := hw'
          subst hw''
          go_wp2_with fail
          go_roundw
          case rel => exact ⟨k + 1, by omega, by go_num, fun j hj => by
            by_cases hjk : j = k
            · rw [hjk]; exact HN.out
            · exact HA.out j (by omega), HP2.out.below (below_regrown _ dq osq), bthen HB2.out (below_regrown _ dq osq)⟩
          case measure => simp [intOf]; omega
      · have HF : Hid (r = none) := Lib.hid (by
          rw [← Hr.out]
          refine ref_miss _ fun a' e' h j hj => ?_
          rw [Hq.out] at h
          simp only [Prod.mk.injEq, and_true] at h
          obtain ⟨rfl, rfl⟩ := h
          exact HA.out j (by omega))
        have f0 := P1.f0
        have f1 := P1.f1
        have h0 := P1.c0
        have h1 := P1.c1
        go_wp2_with fail
        have p2 := P1.set 0 0
        have b2 := (B1.setCell (p := ⟨w.heap.size, 0, none⟩) (by simp) (.int .u32 0)).setCell (p := ⟨w.heap.size, 1, none⟩) (by simp) (.int .i64 0)
        generalize (wr.setCell ⟨w.heap.size, 0, none⟩ (.int .u32 0)).setCell ⟨w.heap.size, 1, none⟩ (.int .i64 0) = W4 at *
        have q0 := p2.c0
        have q1 := p2.c1
        refine bodyPost_ret (v := .tuple #[.agg #[.int .u32 0, .int .i64 0], .int .i64 120]) (by simp [results, Tryd.results48, go_sem, q0, q1]) rfl ⟨?_, b2⟩
        rw [HF.out]; rfl
end Go.Proofs.YtmmoccceafcfkaaDoor
