/- The rows of chapter 1: works of the statements of layer 1. -/
import Derived.Test.YtmmoccceafcfkaaDoorB8
import Derived.Test.YtmmoccceafcfkaaDoorB9
namespace Go.Proofs.YtmmoccceafcfkaaDoor
open Go.RowKit

theorem Parse_lit (s : ByteArray) (w : World) (a n e : Int) (hs : s.size ≤ 1000000000000000) (h : parseS s.data.toList = (a, n, e)) :
    Calls Tryd.prog 39 #[.string s] w fun x w' => x = .returned (.tuple #[.int .u32 a, .int .i64 n, .int .i64 e]) ∧ Below w.heap.size w w' :=
  (Parse_any s w hs).mono fun x w' ⟨h1, h2⟩ => ⟨by rw [h1, h], h2⟩
theorem Text_lit (a : Int) (w : World) (t : ByteArray) (a0 : 0 ≤ a) (a1 : a < 4294967296) (ht : Pow w) (h : (⟨(textS a).toArray⟩ : ByteArray) = t) :
    Calls Tryd.prog 42 #[.int .u32 a] w fun e w' => e = .returned (.string t) ∧ Below w.heap.size w w' := by
  subst h; exact Text_any a w a0 a1 ht
theorem Kind_lit (a k : Int) (w : World) (a0 : 0 ≤ a) (a1 : a < 4294967296) (h : kindI a = k) :
    Calls Tryd.prog 36 #[.int .u32 a] w fun e w' => e = .returned (.int .i64 k) ∧ Below w.heap.size w w' := by
  subst h; exact Kind_any a w a0 a1

set_option maxRecDepth 100000 in
set_option maxHeartbeats 2000000 in
theorem works1 (w : World) (ht : Pow w) : Calls Tryd.prog 38 #[] w fun e w' => e = .returned (.bool true) ∧ Below w.heap.size w w' := by
  have HT := Lib.hid ht
  clear ht
  go_enter Tryd.func38, Tryd.ntmps38
  go_wp2_with fail
  refine (Parse_lit _ _ 167772418 8 0 (by decide) (by decide +kernel)).mono ?_
  rintro e w1 ⟨rfl, hb1⟩
  go_wp2_with fail
  refine (Parse_lit _ _ 0 6 110 (by decide) (by decide +kernel)).mono ?_
  rintro e w2 ⟨rfl, hb2⟩
  go_wp2_with fail
  refine (Parse_lit _ _ 0 5 110 (by decide) (by decide +kernel)).mono ?_
  rintro e w3 ⟨rfl, hb3⟩
  go_wp2_with fail
  refine (Parse_lit _ _ 0 4 110 (by decide) (by decide +kernel)).mono ?_
  rintro e w4 ⟨rfl, hb4⟩
  go_wp2_with fail
  refine (Parse_lit _ _ 0 8 110 (by decide) (by decide +kernel)).mono ?_
  rintro e w5 ⟨rfl, hb5⟩
  have hB5 := bthen (bthen (bthen (bthen hb1 hb2) hb3) hb4) hb5
  clear hb1 hb2 hb3 hb4 hb5
  go_wp2_with fail
  refine (Text_lit _ _ ⟨#[49, 48, 46, 48, 46, 49, 46, 50]⟩ (by decide) (by decide) (tabBelow HT.out hB5) (by decide +kernel)).mono ?_
  rintro e w6 ⟨rfl, hb6⟩
  have hB6 := bthen hB5 hb6
  clear hB5 hb6
  go_wp2_with (go_at_call 41; refine (num1_any _ _).mono ?_; rintro e w' ⟨rfl, rfl⟩)
  refine (Kind_lit _ 6 _ (by decide) (by decide) (by decide)).mono ?_
  rintro e w7 ⟨rfl, hb7⟩
  go_wp2_with (go_at_call 41; refine (num1_any _ _).mono ?_; rintro e w' ⟨rfl, rfl⟩)
  refine (Kind_lit _ 3 _ (by decide) (by decide) (by decide)).mono ?_
  rintro e w8 ⟨rfl, hb8⟩
  go_wp2_with (go_at_call 41; refine (num1_any _ _).mono ?_; rintro e w' ⟨rfl, rfl⟩)
  refine (Kind_lit _ 2 _ (by decide) (by decide) (by decide)).mono ?_
  rintro e w9 ⟨rfl, hb9⟩
  go_wp2_with (go_at_call 41; refine (num1_any _ _).mono ?_; rintro e w' ⟨rfl, rfl⟩)
  go_ret
  exact ⟨rfl, bthen (bthen (bthen hB6 hb7) hb8) hb9⟩
end Go.Proofs.YtmmoccceafcfkaaDoor
