/- The walk of PrefixTexts. -/
import Derived.Test.YtmmoccceafcfkaaDoorF2
namespace Go.Proofs.YtmmoccceafcfkaaDoor
open Go.RowKit
open Go.Sort (grow)

theorem PText_lit (a : Int) (n : Nat) (w : World) (T : ByteArray) (a0 : 0 ≤ a) (a1 : a < 4294967296) (hr : rightB a n = true) (ht : Pow w) (h : (⟨(pfxText a n).toArray⟩ : ByteArray) = T) :
    Calls Tryd.prog 46 #[.agg #[.int .u32 a, .int .i64 n]] w fun e w' => e = .returned (.tuple #[.string T, .int .i64 0]) ∧ Below w.heap.size w w' := by
  subst h; exact PText_t a n w a0 a1 hr ht
theorem rPText_lit (a : Int) (n : Nat) (w : World) (T : ByteArray) (a0 : 0 ≤ a) (a1 : a < 4294967296) (hn : n ≤ 32) (ht : Pow w) (h : (⟨(pfxText a n).toArray⟩ : ByteArray) = T) :
    Calls Tryd.prog 49 #[.agg #[.int .u32 a, .int .i64 n]] w fun e w' => e = .returned (.string T) ∧ Below w.heap.size w w' := by
  subst h; exact rPText_any a n w a0 a1 hn ht
theorem rPParse_lit (s : ByteArray) (w : World) (r : Option (Int × Int)) (hs : s.size ≤ 1000000000000000) (ht : Pow w) (h : pfxS s.data.toList = r) :
    Calls Tryd.prog 48 #[.string s] w fun e w' => e = .returned (resP r) ∧ Below w.heap.size w w' := by
  subst h; exact rPParse_any s w hs ht

theorem pfxText_len (a : Int) (n : Nat) (a0 : 0 ≤ a) (a1 : a < 4294967296) (hn : n ≤ 32) : (pfxText a n).length ≤ 20 := by
  have := textS_len a a0 a1
  have := decDigits_len n (by omega)
  unfold pfxText
  simp
  omega

/-- what is done with a text that is a prefix's -/
structure ParsedAs (s : ByteArray) (qa : Int) (k : Nat) : Prop where
  q0 : 0 ≤ qa
  q1 : qa < 4294967296
  right : rightB qa k = true
  text : (⟨(pfxText qa k).toArray⟩ : ByteArray) = s
  pfx : pfxS s.data.toList = some (qa, (k : Int))

theorem parsed_cases (s : ByteArray) : pfxS s.data.toList = none ∨ ∃ qa k, ParsedAs s qa k := by
  cases h : pfxS s.data.toList with
  | none => exact .inl rfl
  | some r =>
    obtain ⟨a, n⟩ := r
    obtain ⟨a0, a1, k, k1, rfl, k3, hs⟩ := text_pfx _ a n h
    exact .inr ⟨a, k, a0, a1, k3, by rw [← hs], h⟩

set_option maxRecDepth 100000 in
set_option maxHeartbeats 4000000 in
theorem PrefixTexts_t (pa : Int) (pn : Nat) (s : ByteArray) (w : World) (p0 : 0 ≤ pa) (p1 : pa < 4294967296) (hs : s.size ≤ 60) (hp : rightB pa pn = true) (hw : RelsAt w) (ht : Pow w) :
    Calls Tryd.prog 10 #[.agg #[.int .u32 pa, .int .i64 pn], .string s] w fun e w' => e = .returned (.bool true) ∧ Below w.heap.size w w' := by
  have HR := Lib.hid hw
  have HT := Lib.hid ht
  have Hp := Lib.hid hp
  have lp := rightB_len hp
  have HP0 := Lib.hid (pfx_text pa pn p0 p1 (by omega) hp)
  obtain ⟨T, hT⟩ : ∃ T : ByteArray, (⟨(pfxText pa pn).toArray⟩ : ByteArray) = T := ⟨_, rfl⟩
  have hsz : T.size ≤ 20 := by rw [← hT]; exact pfxText_len pa pn p0 p1 (by omega)
  have HPT := Lib.hid (show pfxS T.data.toList = some (pa, (pn : Int)) by rw [← hT]; exact HP0.out)
  have HTx := Lib.hid hT
  clear hT
  clear hw ht hp
  have t1 : decide ((60 : Int) < (s.size : Int)) = false := by simp; omega
  have t2 : decide (60 < s.size) = false := by simp; omega
  go_enter Tryd.func10, Tryd.ntmps10
  go_wp2_with fail
  have B0 : Below w.heap.size w (w.alloc (Obj.cells #[Value.int IntKind.u32 pa, Value.int IntKind.i64 pn] 25)) := (Below.refl _ _).alloc (Nat.le_refl _) _
  have P0 := PBox.new w pa pn
  refine (PText_lit pa pn _ T p0 p1 Hp.out (tabBelow HT.out B0) HTx.out).mono ?_
  rintro e w1 ⟨rfl, hb⟩
  replace B0 := bthen B0 hb
  replace P0 := P0.below hb
  clear hb
  go_wp2_with fail
  rcases parsed_cases s with hn | ⟨qa, k, hq⟩
  · have HN := Lib.hid hn
    clear hn
    refine (PParse_lit s _ none (by omega) HN.out).mono ?_
    rintro e w2 ⟨rfl, hb⟩
    replace B0 := bthen B0 hb
    replace P0 := P0.below hb
    clear hb
    simp only [resP]
    go_wp2_with fail
    have P1 := PBox.new w2 0 0
    replace B0 := B0.alloc B0.size (Obj.cells #[Value.int IntKind.u32 0, Value.int IntKind.i64 0] 25)
    replace P0 := P0.alloc (Obj.cells #[Value.int IntKind.u32 0, Value.int IntKind.i64 0] 25)
    generalize w2.alloc (Obj.cells #[Value.int IntKind.u32 0, Value.int IntKind.i64 0] 25) = W2 at *
    refine (rPParse_lit s _ none (by omega) (tabBelow HT.out B0) HN.out).mono ?_
    rintro e w3 ⟨rfl, hb⟩
    replace B0 := bthen B0 hb
    replace P0 := P0.below hb
    replace P1 := P1.below hb
    clear hb
    simp only [resP]
    have a0 := P1.c0
    have a1 := P1.c1
    have a2 := P0.c0
    have a3 := P0.c1
    have l1 := P1.lt
    have l0 := P0.lt
    go_wp2_with (go_at_call 17; refine (num2_any _ _).mono ?_; rintro e w' ⟨rfl, rfl⟩)
    replace B0 := B0.alloc B0.size (Obj.cells #[Value.int IntKind.u32 0, Value.int IntKind.i64 0] 25)
    replace P0 := P0.alloc (Obj.cells #[Value.int IntKind.u32 0, Value.int IntKind.i64 0] 25)
    clear a0 a1 a2 a3 l1 l0
    generalize w3.alloc (Obj.cells #[Value.int IntKind.u32 0, Value.int IntKind.i64 0] 25) = W3 at *
    have a2 := P0.c0
    have a3 := P0.c1
    refine (rRight_lit pa pn _ true p0 p1 Hp.out).mono ?_
    rintro e w5 ⟨rfl, hb⟩
    replace B0 := bthen B0 hb
    replace P0 := P0.below hb
    clear hb a2 a3
    go_wp2_with fail
    refine (PParse_lit T _ (some (pa, (pn : Int))) (by omega) HPT.out).mono ?_
    rintro e w6 ⟨rfl, hb⟩
    replace B0 := bthen B0 hb
    replace P0 := P0.below hb
    clear hb
    simp only [resP]
    have a2 := P0.c0
    have a3 := P0.c1
    have l0 := P0.lt
    go_wp2_with fail
    have P4 := PBox.new w6 pa pn
    replace B0 := B0.alloc B0.size (Obj.cells #[Value.int IntKind.u32 pa, Value.int IntKind.i64 pn] 25)
    replace P0 := P0.alloc (Obj.cells #[Value.int IntKind.u32 pa, Value.int IntKind.i64 pn] 25)
    clear a2 a3 l0
    generalize w6.alloc (Obj.cells #[Value.int IntKind.u32 pa, Value.int IntKind.i64 pn] 25) = W6 at *
    refine (rPText_lit pa pn _ T p0 p1 (by omega) (tabBelow HT.out B0) HTx.out).mono ?_
    rintro e w7 ⟨rfl, hb⟩
    replace B0 := bthen B0 hb
    replace P0 := P0.below hb
    replace P4 := P4.below hb
    clear hb
    have a2 := P0.c0
    have a3 := P0.c1
    have a4 := P4.c0
    have a5 := P4.c1
    go_wp2_with (go_at_call 17; refine (num2_any _ _).mono ?_; rintro e w' ⟨rfl, rfl⟩)
    refine (works2 _ (HR.out.below B0)).mono ?_
    rintro e w8 ⟨rfl, hb6⟩
    go_wp2_with fail
    go_ret
    exact ⟨rfl, bthen B0 hb6⟩
  · have HQ := Lib.hid hq
    clear hq
    refine (PParse_lit s _ (some (qa, (k : Int))) (by omega) HQ.out.pfx).mono ?_
    rintro e w2 ⟨rfl, hb⟩
    replace B0 := bthen B0 hb
    replace P0 := P0.below hb
    clear hb
    simp only [resP]
    go_wp2_with fail
    have P1 := PBox.new w2 qa k
    replace B0 := B0.alloc B0.size (Obj.cells #[Value.int IntKind.u32 qa, Value.int IntKind.i64 k] 25)
    replace P0 := P0.alloc (Obj.cells #[Value.int IntKind.u32 qa, Value.int IntKind.i64 k] 25)
    generalize w2.alloc (Obj.cells #[Value.int IntKind.u32 qa, Value.int IntKind.i64 k] 25) = W2 at *
    refine (rPParse_lit s _ (some (qa, (k : Int))) (by omega) (tabBelow HT.out B0) HQ.out.pfx).mono ?_
    rintro e w3 ⟨rfl, hb⟩
    replace B0 := bthen B0 hb
    replace P0 := P0.below hb
    replace P1 := P1.below hb
    clear hb
    simp only [resP]
    have a0 := P1.c0
    have a1 := P1.c1
    have a2 := P0.c0
    have a3 := P0.c1
    have l1 := P1.lt
    have l0 := P0.lt
    go_wp2_with (go_at_call 17; refine (num2_any _ _).mono ?_; rintro e w' ⟨rfl, rfl⟩)
    replace B0 := B0.alloc B0.size (Obj.cells #[Value.int IntKind.u32 qa, Value.int IntKind.i64 k] 25)
    replace P0 := P0.alloc (Obj.cells #[Value.int IntKind.u32 qa, Value.int IntKind.i64 k] 25)
    clear a0 a1 a2 a3 l1 l0
    generalize w3.alloc (Obj.cells #[Value.int IntKind.u32 qa, Value.int IntKind.i64 k] 25) = W3 at *
    have a2 := P0.c0
    have a3 := P0.c1
    refine (PText_lit qa k _ s HQ.out.q0 HQ.out.q1 HQ.out.right (tabBelow HT.out B0) HQ.out.text).mono ?_
    rintro e w4 ⟨rfl, hb⟩
    replace B0 := bthen B0 hb
    replace P0 := P0.below hb
    clear hb a2 a3
    have a2 := P0.c0
    have a3 := P0.c1
    go_wp2_with (go_at_call 17; refine (num2_any _ _).mono ?_; rintro e w' ⟨rfl, rfl⟩)
    refine (rRight_lit pa pn _ true p0 p1 Hp.out).mono ?_
    rintro e w5 ⟨rfl, hb⟩
    replace B0 := bthen B0 hb
    replace P0 := P0.below hb
    clear hb a2 a3
    go_wp2_with fail
    refine (PParse_lit T _ (some (pa, (pn : Int))) (by omega) HPT.out).mono ?_
    rintro e w6 ⟨rfl, hb⟩
    replace B0 := bthen B0 hb
    replace P0 := P0.below hb
    clear hb
    simp only [resP]
    have a2 := P0.c0
    have a3 := P0.c1
    have l0 := P0.lt
    go_wp2_with fail
    have P4 := PBox.new w6 pa pn
    replace B0 := B0.alloc B0.size (Obj.cells #[Value.int IntKind.u32 pa, Value.int IntKind.i64 pn] 25)
    replace P0 := P0.alloc (Obj.cells #[Value.int IntKind.u32 pa, Value.int IntKind.i64 pn] 25)
    clear a2 a3 l0
    generalize w6.alloc (Obj.cells #[Value.int IntKind.u32 pa, Value.int IntKind.i64 pn] 25) = W6 at *
    refine (rPText_lit pa pn _ T p0 p1 (by omega) (tabBelow HT.out B0) HTx.out).mono ?_
    rintro e w7 ⟨rfl, hb⟩
    replace B0 := bthen B0 hb
    replace P0 := P0.below hb
    replace P4 := P4.below hb
    clear hb
    have a2 := P0.c0
    have a3 := P0.c1
    have a4 := P4.c0
    have a5 := P4.c1
    go_wp2_with (go_at_call 17; refine (num2_any _ _).mono ?_; rintro e w' ⟨rfl, rfl⟩)
    refine (works2 _ (HR.out.below B0)).mono ?_
    rintro e w8 ⟨rfl, hb6⟩
    go_wp2_with fail
    go_ret
    exact ⟨rfl, bthen B0 hb6⟩

set_option maxRecDepth 100000 in
set_option maxHeartbeats 4000000 in
theorem PrefixTexts_f (pa pn : Int) (s : ByteArray) (w : World) (p0 : 0 ≤ pa) (p1 : pa < 4294967296) (hs : s.size ≤ 60) (hp : rightB pa pn = false) (hw : RelsAt w) (ht : Pow w) :
    Calls Tryd.prog 10 #[.agg #[.int .u32 pa, .int .i64 pn], .string s] w fun e w' => e = .returned (.bool true) ∧ Below w.heap.size w w' := by
  have HR := Lib.hid hw
  have HT := Lib.hid ht
  have Hp := Lib.hid hp
  clear hw ht hp
  have t1 : decide ((60 : Int) < (s.size : Int)) = false := by simp; omega
  have t2 : decide (60 < s.size) = false := by simp; omega
  go_enter Tryd.func10, Tryd.ntmps10
  go_wp2_with fail
  have B0 : Below w.heap.size w (w.alloc (Obj.cells #[Value.int IntKind.u32 pa, Value.int IntKind.i64 pn] 25)) := (Below.refl _ _).alloc (Nat.le_refl _) _
  have P0 := PBox.new w pa pn
  refine (PText_f pa pn _ Hp.out).mono ?_
  rintro e w1 ⟨rfl, hb⟩
  replace B0 := bthen B0 hb
  replace P0 := P0.below hb
  clear hb
  go_wp2_with fail
  rcases parsed_cases s with hn | ⟨qa, k, hq⟩
  · have HN := Lib.hid hn
    clear hn
    refine (PParse_lit s _ none (by omega) HN.out).mono ?_
    rintro e w2 ⟨rfl, hb⟩
    replace B0 := bthen B0 hb
    replace P0 := P0.below hb
    clear hb
    simp only [resP]
    go_wp2_with fail
    have P1 := PBox.new w2 0 0
    replace B0 := B0.alloc B0.size (Obj.cells #[Value.int IntKind.u32 0, Value.int IntKind.i64 0] 25)
    replace P0 := P0.alloc (Obj.cells #[Value.int IntKind.u32 0, Value.int IntKind.i64 0] 25)
    generalize w2.alloc (Obj.cells #[Value.int IntKind.u32 0, Value.int IntKind.i64 0] 25) = W2 at *
    refine (rPParse_lit s _ none (by omega) (tabBelow HT.out B0) HN.out).mono ?_
    rintro e w3 ⟨rfl, hb⟩
    replace B0 := bthen B0 hb
    replace P0 := P0.below hb
    replace P1 := P1.below hb
    clear hb
    simp only [resP]
    have a0 := P1.c0
    have a1 := P1.c1
    have a2 := P0.c0
    have a3 := P0.c1
    have l1 := P1.lt
    have l0 := P0.lt
    go_wp2_with (go_at_call 17; refine (num2_any _ _).mono ?_; rintro e w' ⟨rfl, rfl⟩)
    replace B0 := B0.alloc B0.size (Obj.cells #[Value.int IntKind.u32 0, Value.int IntKind.i64 0] 25)
    replace P0 := P0.alloc (Obj.cells #[Value.int IntKind.u32 0, Value.int IntKind.i64 0] 25)
    clear a0 a1 a2 a3 l1 l0
    generalize w3.alloc (Obj.cells #[Value.int IntKind.u32 0, Value.int IntKind.i64 0] 25) = W3 at *
    have a2 := P0.c0
    have a3 := P0.c1
    refine (rRight_lit pa pn _ false p0 p1 Hp.out).mono ?_
    rintro e w5 ⟨rfl, hb⟩
    replace B0 := bthen B0 hb
    replace P0 := P0.below hb
    clear hb a2 a3
    go_wp2_with (go_at_call 17; refine (num2_any _ _).mono ?_; rintro e w' ⟨rfl, rfl⟩)
    refine (works2 _ (HR.out.below B0)).mono ?_
    rintro e w6 ⟨rfl, hb6⟩
    go_wp2_with fail
    go_ret
    exact ⟨rfl, bthen B0 hb6⟩
  · have HQ := Lib.hid hq
    clear hq
    refine (PParse_lit s _ (some (qa, (k : Int))) (by omega) HQ.out.pfx).mono ?_
    rintro e w2 ⟨rfl, hb⟩
    replace B0 := bthen B0 hb
    replace P0 := P0.below hb
    clear hb
    simp only [resP]
    go_wp2_with fail
    have P1 := PBox.new w2 qa k
    replace B0 := B0.alloc B0.size (Obj.cells #[Value.int IntKind.u32 qa, Value.int IntKind.i64 k] 25)
    replace P0 := P0.alloc (Obj.cells #[Value.int IntKind.u32 qa, Value.int IntKind.i64 k] 25)
    generalize w2.alloc (Obj.cells #[Value.int IntKind.u32 qa, Value.int IntKind.i64 k] 25) = W2 at *
    refine (rPParse_lit s _ (some (qa, (k : Int))) (by omega) (tabBelow HT.out B0) HQ.out.pfx).mono ?_
    rintro e w3 ⟨rfl, hb⟩
    replace B0 := bthen B0 hb
    replace P0 := P0.below hb
    replace P1 := P1.below hb
    clear hb
    simp only [resP]
    have a0 := P1.c0
    have a1 := P1.c1
    have a2 := P0.c0
    have a3 := P0.c1
    have l1 := P1.lt
    have l0 := P0.lt
    go_wp2_with (go_at_call 17; refine (num2_any _ _).mono ?_; rintro e w' ⟨rfl, rfl⟩)
    replace B0 := B0.alloc B0.size (Obj.cells #[Value.int IntKind.u32 qa, Value.int IntKind.i64 k] 25)
    replace P0 := P0.alloc (Obj.cells #[Value.int IntKind.u32 qa, Value.int IntKind.i64 k] 25)
    clear a0 a1 a2 a3 l1 l0
    generalize w3.alloc (Obj.cells #[Value.int IntKind.u32 qa, Value.int IntKind.i64 k] 25) = W3 at *
    have a2 := P0.c0
    have a3 := P0.c1
    refine (PText_lit qa k _ s HQ.out.q0 HQ.out.q1 HQ.out.right (tabBelow HT.out B0) HQ.out.text).mono ?_
    rintro e w4 ⟨rfl, hb⟩
    replace B0 := bthen B0 hb
    replace P0 := P0.below hb
    clear hb a2 a3
    have a2 := P0.c0
    have a3 := P0.c1
    go_wp2_with (go_at_call 17; refine (num2_any _ _).mono ?_; rintro e w' ⟨rfl, rfl⟩)
    refine (rRight_lit pa pn _ false p0 p1 Hp.out).mono ?_
    rintro e w5 ⟨rfl, hb⟩
    replace B0 := bthen B0 hb
    replace P0 := P0.below hb
    clear hb a2 a3
    go_wp2_with (go_at_call 17; refine (num2_any _ _).mono ?_; rintro e w' ⟨rfl, rfl⟩)
    refine (works2 _ (HR.out.below B0)).mono ?_
    rintro e w6 ⟨rfl, hb6⟩
    go_wp2_with fail
    go_ret
    exact ⟨rfl, bthen B0 hb6⟩

set_option maxRecDepth 100000 in
set_option maxHeartbeats 4000000 in
theorem PrefixTexts_walk (pa pn : Int) (s : ByteArray) (w : World) (p0 : 0 ≤ pa) (p1 : pa < 4294967296) (hs : s.size ≤ 9223372036854775807) (hw : RelsAt w) (ht : Pow w) :
    Calls Tryd.prog 10 #[.agg #[.int .u32 pa, .int .i64 pn], .string s] w fun e w' => e = .returned (.bool true) ∧ Below w.heap.size w w' := by
  by_cases hlong : 60 < s.size
  · have HR := Lib.hid hw
    clear hw ht
    have t : decide ((60 : Int) < (s.size : Int)) = true := by simp; omega
    have t' : decide (60 < s.size) = true := by simp; omega
    go_enter Tryd.func10, Tryd.ntmps10
    go_wp2_with fail
    have B0 : Below w.heap.size w (w.alloc (Obj.cells #[Value.int IntKind.u32 pa, Value.int IntKind.i64 pn] 25)) := (Below.refl _ _).alloc (Nat.le_refl _) _
    refine (works2 _ (HR.out.below B0)).mono ?_
    rintro e w1 ⟨rfl, hb1⟩
    go_wp2_with fail
    go_ret
    exact ⟨rfl, bthen B0 hb1⟩
  · cases hp : rightB pa pn with
    | true =>
      obtain ⟨n, rfl⟩ := Int.eq_ofNat_of_zero_le (rightB_len hp).1
      exact PrefixTexts_t pa n s w p0 p1 (by omega) hp hw ht
    | false => exact PrefixTexts_f pa pn s w p0 p1 (by omega) hp hw ht
end Go.Proofs.YtmmoccceafcfkaaDoor
