/- The walk of AddrParses. -/
import Derived.Test.YtmmoccceafcfkaaDoorC1
namespace Go.Proofs.YtmmoccceafcfkaaDoor
open Go.RowKit

theorem rParse_lit (s : ByteArray) (w : World) (a n e : Int) (hs : s.size ≤ 1000000000000000) (h : parseS s.data.toList = (a, n, e)) :
    Calls Tryd.prog 40 #[.string s] w fun x w' => x = .returned (.tuple #[.int .u32 a, .int .i64 n, .int .i64 e]) ∧ w = w' :=
  (rParse_any s w hs).mono fun x w' ⟨h1, h2⟩ => ⟨by rw [h1, ← parse_ref, h], h2⟩

theorem bytes_self (s : ByteArray) : (⟨s.data.toList.toArray⟩ : ByteArray) = s := rfl

set_option maxRecDepth 100000 in
set_option maxHeartbeats 2000000 in
theorem AddrParses_walk (s : ByteArray) (w : World) (hs : s.size ≤ 9223372036854775807) (ht : Pow w) :
    Calls Tryd.prog 7 #[.string s] w fun e w' => e = .returned (.bool true) ∧ Below w.heap.size w w' := by
  have HT := Lib.hid ht
  clear ht
  by_cases hlong : 60 < s.size
  · have t : decide ((60 : Int) < (s.size : Int)) = true := by simp; omega
    have t' : decide (60 < s.size) = true := by simp; omega
    go_enter Tryd.func7, Tryd.ntmps7
    go_wp2_with fail
    refine (works1 _ HT.out).mono ?_
    rintro e w1 ⟨rfl, hb1⟩
    go_wp2_with fail
    go_ret
    exact ⟨rfl, hb1⟩
  · have t : decide ((60 : Int) < (s.size : Int)) = false := by simp; omega
    have t' : decide (60 < s.size) = false := by simp; omega
    generalize hq : parseS s.data.toList = q
    obtain ⟨a, n, e⟩ := q
    have HQ := Lib.hid hq
    by_cases he : e = 0
    · subst he
      obtain ⟨b0, b1, b2, _⟩ := text_parse _ _ _ hq
      have HX := Lib.hid b2
      clear hq b2
      go_enter Tryd.func7, Tryd.ntmps7
      go_wp2_with fail
      refine (Parse_lit s _ a n 0 (by omega) HQ.out).mono ?_
      rintro e w1 ⟨rfl, hb1⟩
      go_wp2_with fail
      refine (rParse_lit s _ a n 0 (by omega) HQ.out).mono ?_
      rintro e w2 ⟨rfl, rfl⟩
      go_wp2_with (go_at_call 41; refine (num1_any _ _).mono ?_; rintro e w' ⟨rfl, rfl⟩)
      refine (Text_lit a _ s b0 b1 (tabBelow HT.out hb1) (by rw [HX.out])).mono ?_
      rintro e w3 ⟨rfl, hb3⟩
      have hB3 := bthen hb1 hb3
      go_wp2_with fail
      refine (works1 _ (tabBelow HT.out hB3)).mono ?_
      rintro e w4 ⟨rfl, hb4⟩
      go_wp2_with fail
      go_ret
      exact ⟨rfl, bthen hB3 hb4⟩
    · have te : (e != 0) = true := by simpa using he
      clear hq he
      go_enter Tryd.func7, Tryd.ntmps7
      go_wp2_with fail
      refine (Parse_lit s _ a n e (by omega) HQ.out).mono ?_
      rintro e w1 ⟨rfl, hb1⟩
      go_wp2_with fail
      refine (rParse_lit s _ a n e (by omega) HQ.out).mono ?_
      rintro e w2 ⟨rfl, rfl⟩
      go_wp2_with (go_at_call 41; refine (num1_any _ _).mono ?_; rintro e w' ⟨rfl, rfl⟩)
      refine (works1 _ (tabBelow HT.out hb1)).mono ?_
      rintro e w4 ⟨rfl, hb4⟩
      go_wp2_with fail
      go_ret
      exact ⟨rfl, bthen hb1 hb4⟩
end Go.Proofs.YtmmoccceafcfkaaDoor
