/- Contracts: prefix.Text, the reference's Text and Parse of layer 2. -/
import Derived.Test.YtmmoccceafcfkaaDoorC4
import Derived.Test.YtmmoccceafcfkaaDoorM9
import Derived.Test.YtmmoccceafcfkaaDoorE3
namespace Go.Proofs.YtmmoccceafcfkaaDoor
open Go.RowKit
open Go.Sort (grow)

theorem textS_len (a : Int) (a0 : 0 ≤ a) (a1 : a < 4294967296) : (textS a).length ≤ 16 := textTo_len a a0 a1 4

set_option maxRecDepth 100000 in
set_option maxHeartbeats 400000 in
theorem rPText_any (a : Int) (n : Nat) (w : World) (a0 : 0 ≤ a) (a1 : a < 4294967296) (hn : n ≤ 32) (ht : Pow w) :
    Calls Tryd.prog 49 #[.agg #[.int .u32 a, .int .i64 n]] w fun e w' => e = .returned (.string ⟨(pfxText a n).toArray⟩) ∧ Below w.heap.size w w' := by
  have HT := Lib.hid ht
  clear ht
  have l0 := textS_len a a0 a1
  have l1 := decDigits_len n (by omega)
  go_enter Tryd.func49, Tryd.ntmps49
  go_wp2_with fail
  have P := PBox.new w a n
  have hB : Below w.heap.size w (w.alloc (Obj.cells #[Value.int IntKind.u32 a, Value.int IntKind.i64 n] 25)) := (Below.refl _ _).alloc (Nat.le_refl _) _
  generalize w.alloc (Obj.cells #[Value.int IntKind.u32 a, Value.int IntKind.i64 n] 25) = W at *
  have d0 := cell_regrown P.c0
  have d1 := cell_regrown P.c1
  have HB := Lib.hid hB
  have HP := Lib.hid (tabBelow HT.out hB)
  clear P hB
  have n0 : ¬ 9223372036854775807 < (textS a).length + 1 := by omega
  have n1 : ¬ 9223372036854775807 < (textS a).length + 1 + (Lib.decDigits n).length := by omega
  refine wp_region_quiet_below (by kernel_rfl) (by kernel_rfl) ?_
  repeat (quiet_step (first | exact Itoa_part _ _ _ _ (by omega) HP.out | exact Calls.regrown_of (rText_any _ _ a0 a1 (tabBelow HP.out (below_regrown _ _ _)))))
  refine wpQuiet_nil ?_
  intro _ hw'
  obtain ⟨⟨dq, osq⟩, hw''⟩ := hw'
  subst hw''
  go_wp2_with fail
  go_ret
  refine ⟨?_, bthen HB.out (below_regrown _ dq osq)⟩
  refine ret_str ?_
  rw [app_bytes _ [47], app_bytes]
  simp [pfxText]

set_option maxRecDepth 100000 in
set_option maxHeartbeats 400000 in
theorem PText_t (a : Int) (n : Nat) (w : World) (a0 : 0 ≤ a) (a1 : a < 4294967296) (hr : rightB a n = true) (ht : Pow w) :
    Calls Tryd.prog 46 #[.agg #[.int .u32 a, .int .i64 n]] w fun e w' => e = .returned (.tuple #[.string ⟨(pfxText a n).toArray⟩, .int .i64 0]) ∧ Below w.heap.size w w' := by
  have HT := Lib.hid ht
  have H := Lib.hid hr
  have hn := rightB_len hr
  clear ht hr
  have l0 := textS_len a a0 a1
  have l1 := decDigits_len n (by omega)
  go_enter Tryd.func46, Tryd.ntmps46
  go_wp2_with fail
  go_step3
  go_wp2_with fail
  refine (mayBe1 _ a n _ true H.out ?_ ?_).mono ?_
  · simp [go_sem]
  · simp [go_sem]
  rintro e w1 ⟨rfl, hb⟩
  have P : PBox w1 w.heap.size a n := PBox.below (PBox.alloc (PBox.new w a n) _) hb
  have hB := bthen (((Below.refl _ _).alloc (Nat.le_refl _) _).alloc (by simp) _) hb
  clear hb
  have d0 := cell_regrown P.c0
  have d1 := cell_regrown P.c1
  have HB := Lib.hid hB
  have HP := Lib.hid (tabBelow HT.out hB)
  clear P hB
  have n0 : ¬ 9223372036854775807 < (textS a).length + 1 := by omega
  have n1 : ¬ 9223372036854775807 < (textS a).length + 1 + (Lib.decDigits n).length := by omega
  go_wp2_with fail
  refine wp_region_quiet_below (by kernel_rfl) (by kernel_rfl) ?_
  repeat (quiet_step (first | exact Itoa_part _ _ _ _ (by omega) HP.out | exact Calls.regrown_of (Text_any _ _ a0 a1 (tabBelow HP.out (below_regrown _ _ _)))))
  refine wpQuiet_nil ?_
  intro _ hw'
  obtain ⟨⟨dq, osq⟩, hw''⟩ := hw'
  subst hw''
  go_wp2_with fail
  rw [Exit.noGoto_ret]
  go_ret2
  refine ⟨?_, bthen HB.out (below_regrown _ dq osq)⟩
  rw [app_bytes _ [47], app_bytes]
  simp [pfxText]

set_option maxHeartbeats 400000 in
theorem PText_f (a n : Int) (w : World) (h : rightB a n = false) :
    Calls Tryd.prog 46 #[.agg #[.int .u32 a, .int .i64 n]] w fun e w' => e = .returned (.tuple #[.string ⟨#[]⟩, .int .i64 2]) ∧ Below w.heap.size w w' := by
  have H := Lib.hid h
  clear h
  go_enter Tryd.func46, Tryd.ntmps46
  go_wp2_with fail
  refine wp_scope_fwd 0 rfl ?_
  go_wp2_with fail
  refine (mayBe1 _ a n _ false H.out ?_ ?_).mono ?_
  · simp [go_sem]
  · simp [go_sem]
  rintro e w' ⟨rfl, hb⟩
  go_wp2
  go_step3
  refine ⟨rfl, ?_⟩
  go_wp2
  rw [Exit.noGoto_ret]
  go_ret2
  exact ⟨rfl, (((Below.refl _ _).alloc (Nat.le_refl _) _).alloc (by simp) _).trans (hb.mono (by simp; omega))⟩
end Go.Proofs.YtmmoccceafcfkaaDoor
