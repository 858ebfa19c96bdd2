/- The walk of AddrTexts. -/
import Derived.Test.YtmmoccceafcfkaaDoorC3
namespace Go.Proofs.YtmmoccceafcfkaaDoor
open Go.RowKit
open Go.Sort (grow)

theorem app_bytes (l r : List UInt8) : (⟨l.toArray⟩ : ByteArray) ++ ⟨r.toArray⟩ = ⟨(l ++ r).toArray⟩ := by
  apply ByteArray.ext
  rw [ByteArray.data_append]
  simp
theorem ret_str {a b : ByteArray} (h : a = b) : Ending.returned (.string a) = .returned (.string b) := by rw [h]
theorem below_grow (w : World) (k : Nat) (os : Array Obj) : Below w.heap.size w (grow (w.drewN k) os) :=
  ⟨rfl, rfl, rfl, by simp [grow, World.drewN], fun j hj => by simp [grow, World.drewN, Array.getElem?_append, hj]⟩
theorem Itoa_any (n : Nat) (w : World) (hn : n < 1000000) (ht : Pow w) :
    Calls Tryd.prog 71 #[.int .i64 n] w fun e w' => e = .returned (.string ⟨(Lib.decDigits n).toArray⟩) ∧ Below w.heap.size w w' := by
  refine (Tryd.strconv_Itoa (n : Int) (by omega) (by omega) w ht).mono ?_
  rintro e w' ⟨he, k, os, rfl⟩
  refine ⟨?_, below_grow w k os⟩
  rw [he]
  have : Lib.itoa (n : Int) = Lib.decDigits n := by unfold Lib.itoa; rw [if_neg (by omega)]; rfl
  rw [this]
theorem Itoa_part (n : Nat) (w : World) (d : Nat) (os : Array Obj) (hn : n < 256) (ht : Pow w) :
    Calls Tryd.prog 71 #[.int .i64 n] (grow (redrawn w d) os) fun e w'' => e = .returned (.string ⟨(Lib.decDigits n).toArray⟩) ∧ ∃ p : Regrown, w'' = grow (redrawn w p.d) p.os :=
  Calls.regrown_of (Itoa_any n _ (by omega) (tabBelow ht (below_regrown w d os)))
theorem rPartsN (a : Int) (w : World) (a0 : 0 ≤ a) (a1 : a < 4294967296) :
    Calls Tryd.prog 34 #[.int .u32 a] w fun e w' => e = .returned (.agg #[.int .i64 (partN a 0 : Nat), .int .i64 (partN a 1 : Nat), .int .i64 (partN a 2 : Nat), .int .i64 (partN a 3 : Nat)]) ∧ Below w.heap.size w w' := by
  have e0 : ((partN a 0 : Nat) : Int) = a / 16777216 := by show ((a / 16777216).toNat : Int) = _; omega
  have e1 : ((partN a 1 : Nat) : Int) = a / 65536 % 256 := by show ((a / 65536 % 256).toNat : Int) = _; omega
  have e2 : ((partN a 2 : Nat) : Int) = a / 256 % 256 := by show ((a / 256 % 256).toNat : Int) = _; omega
  have e3 : ((partN a 3 : Nat) : Int) = a % 256 := by show ((a % 256).toNat : Int) = _; omega
  rw [e0, e1, e2, e3]
  exact rParts_any a w a0 a1

set_option maxRecDepth 100000 in
set_option maxHeartbeats 2000000 in
theorem rText_any (a : Int) (w : World) (a0 : 0 ≤ a) (a1 : a < 4294967296) (ht : Pow w) :
    Calls Tryd.prog 43 #[.int .u32 a] w fun e w' => e = .returned (.string ⟨(textS a).toArray⟩) ∧ Below w.heap.size w w' := by
  have HT := Lib.hid ht
  clear ht
  have b0 := partN_lt a a0 a1 0
  have b1 := partN_lt a a0 a1 1
  have b2 := partN_lt a a0 a1 2
  have b3 := partN_lt a a0 a1 3
  have l0 := decDigits_len _ b0
  have l1 := decDigits_len _ b1
  have l2 := decDigits_len _ b2
  have l3 := decDigits_len _ b3
  have HX := Lib.hid (textS_eq a)
  go_enter Tryd.func43, Tryd.ntmps43
  go_wp2_with fail
  refine (rPartsN _ _ a0 a1).mono ?_
  rintro e w1 ⟨rfl, hb1⟩
  go_wp2_with fail
  have hP : Pow (w1.alloc (.cells #[.int .i64 (partN a 0 : Nat), .int .i64 (partN a 1 : Nat), .int .i64 (partN a 2 : Nat), .int .i64 (partN a 3 : Nat)] 54)) := tabBelow HT.out (hb1.alloc hb1.size _)
  have hB2 := hb1.alloc hb1.size (.cells #[.int .i64 (partN a 0 : Nat), .int .i64 (partN a 1 : Nat), .int .i64 (partN a 2 : Nat), .int .i64 (partN a 3 : Nat)] 54)
  have c0 : (w1.alloc (.cells #[.int .i64 (partN a 0 : Nat), .int .i64 (partN a 1 : Nat), .int .i64 (partN a 2 : Nat), .int .i64 (partN a 3 : Nat)] 54)).cell? ⟨w1.heap.size, 0, none⟩ = some (.int .i64 (partN a 0 : Nat)) := by simp [go_sem]
  have c1 : (w1.alloc (.cells #[.int .i64 (partN a 0 : Nat), .int .i64 (partN a 1 : Nat), .int .i64 (partN a 2 : Nat), .int .i64 (partN a 3 : Nat)] 54)).cell? ⟨w1.heap.size, 1, none⟩ = some (.int .i64 (partN a 1 : Nat)) := by simp [go_sem]
  have c2 : (w1.alloc (.cells #[.int .i64 (partN a 0 : Nat), .int .i64 (partN a 1 : Nat), .int .i64 (partN a 2 : Nat), .int .i64 (partN a 3 : Nat)] 54)).cell? ⟨w1.heap.size, 2, none⟩ = some (.int .i64 (partN a 2 : Nat)) := by simp [go_sem]
  have c3 : (w1.alloc (.cells #[.int .i64 (partN a 0 : Nat), .int .i64 (partN a 1 : Nat), .int .i64 (partN a 2 : Nat), .int .i64 (partN a 3 : Nat)] 54)).cell? ⟨w1.heap.size, 3, none⟩ = some (.int .i64 (partN a 3 : Nat)) := by simp [go_sem]
  generalize w1.alloc (.cells #[.int .i64 (partN a 0 : Nat), .int .i64 (partN a 1 : Nat), .int .i64 (partN a 2 : Nat), .int .i64 (partN a 3 : Nat)] 54) = W at *
  generalize w1.heap.size = B1 at *
  have d0 := cell_regrown c0
  have d1 := cell_regrown c1
  have d2 := cell_regrown c2
  have d3 := cell_regrown c3
  have HP := Lib.hid hP
  clear c0 c1 c2 c3 hP hb1
  have n0 : ¬ 9223372036854775807 < (Lib.decDigits (partN a 0)).length + 1 := by omega
  have n1 : ¬ 9223372036854775807 < (Lib.decDigits (partN a 0)).length + 1 + (Lib.decDigits (partN a 1)).length := by omega
  have n2 : ¬ 9223372036854775807 < (Lib.decDigits (partN a 0)).length + 1 + (Lib.decDigits (partN a 1)).length + 1 := by omega
  have n3 : ¬ 9223372036854775807 < (Lib.decDigits (partN a 0)).length + 1 + (Lib.decDigits (partN a 1)).length + 1 + (Lib.decDigits (partN a 2)).length := by omega
  have n4 : ¬ 9223372036854775807 < (Lib.decDigits (partN a 0)).length + 1 + (Lib.decDigits (partN a 1)).length + 1 + (Lib.decDigits (partN a 2)).length + 1 := by omega
  have n5 : ¬ 9223372036854775807 < (Lib.decDigits (partN a 0)).length + 1 + (Lib.decDigits (partN a 1)).length + 1 + (Lib.decDigits (partN a 2)).length + 1 + (Lib.decDigits (partN a 3)).length := by omega
  refine wp_region_quiet_below (by kernel_rfl) (by kernel_rfl) ?_
  repeat (quiet_step (exact Itoa_part _ _ _ _ (by omega) HP.out))
  refine wpQuiet_nil ?_
  intro _ hw'
  obtain ⟨⟨dq, osq⟩, hw''⟩ := hw'
  subst hw''
  go_wp2_with fail
  go_ret
  refine ⟨?_, bthen hB2 (below_regrown _ dq osq)⟩
  rw [HX.out]
  refine ret_str ?_
  rw [app_bytes _ [46], app_bytes, app_bytes _ [46], app_bytes, app_bytes _ [46], app_bytes]
  simp

set_option maxRecDepth 100000 in
set_option maxHeartbeats 2000000 in
theorem AddrTexts_walk (a : Int) (w : World) (a0 : 0 ≤ a) (a1 : a < 4294967296) (ht : Pow w) :
    Calls Tryd.prog 8 #[.int .u32 a] w fun e w' => e = .returned (.bool true) ∧ Below w.heap.size w w' := by
  have HT := Lib.hid ht
  clear ht
  have hlen := textTo_len a a0 a1 4
  have HQ := Lib.hid (parse_text a a0 a1)
  obtain ⟨T, hT⟩ : ∃ T : ByteArray, (⟨(textS a).toArray⟩ : ByteArray) = T := ⟨_, rfl⟩
  have HTx := Lib.hid hT
  have hsz : T.size ≤ 16 := by rw [← hT]; simpa [ByteArray.size, textS] using hlen
  have HQ2 := Lib.hid (show parseS T.data.toList = (a, (T.size : Int), 0) by rw [← hT]; have := HQ.out; simpa [ByteArray.size] using this)
  clear hT hlen HQ
  go_enter Tryd.func8, Tryd.ntmps8
  go_wp2_with fail
  refine (Text_lit a _ T a0 a1 HT.out HTx.out).mono ?_
  rintro e w1 ⟨rfl, hb1⟩
  go_wp2_with fail
  refine (Parse_lit T _ a T.size 0 (by omega) HQ2.out).mono ?_
  rintro e w2 ⟨rfl, hb2⟩
  have hB2 := bthen hb1 hb2
  go_wp2_with fail
  refine ((rText_any a _ a0 a1 (tabBelow HT.out hB2)).mono (fun e w' h => show e = .returned (.string T) ∧ Below w2.heap.size w2 w' from ⟨by rw [h.1, HTx.out], h.2⟩)).mono ?_
  rintro e w3 ⟨rfl, hb3⟩
  have hB3 := bthen hB2 hb3
  go_wp2_with (go_at_call 41; refine (num1_any _ _).mono ?_; rintro e w' ⟨rfl, rfl⟩)
  refine (works1 _ (tabBelow HT.out hB3)).mono ?_
  rintro e w4 ⟨rfl, hb4⟩
  go_wp2_with fail
  go_ret
  exact ⟨rfl, bthen hB3 hb4⟩
end Go.Proofs.YtmmoccceafcfkaaDoor
