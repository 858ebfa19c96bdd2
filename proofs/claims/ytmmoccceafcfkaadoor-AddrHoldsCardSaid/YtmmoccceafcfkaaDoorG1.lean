/- Contract: the reference's Each of layer 1. -/
import Derived.Test.YtmmoccceafcfkaaDoorC4
import Derived.Test.YtmmoccceafcfkaaDoorM10
import Derived.Maps.AppendAt
namespace Go.Proofs.YtmmoccceafcfkaaDoor
open Go.RowKit

def cellsE (l : List (Nat × Int)) : List Value := l.flatMap fun p => [.int .i64 p.1, .int .u32 p.2]
theorem cellsE_snoc (l : List (Nat × Int)) (p : Nat × Int) : cellsE (l ++ [p]) = cellsE l ++ [.int .i64 p.1, .int .u32 p.2] := by simp [cellsE]
theorem infoOne : (Tryd.prog.info? 74).map (fun i => (i.zero, i.size, i.bytes)) = some (some (.agg #[.int .i64 0, .int .u32 0]), 2, 16) := by kernel_rfl
theorem eachS_len (s : List UInt8) : (eachS s).length ≤ s.length + 1 := eachL_len s _ _

def REachPost (s : ByteArray) (w : World) (e : Ending) (w' : World) : Prop :=
  ∃ v, e = .returned v ∧ w'.ownsRow w.heap.size 74 2 v (eachS s.data.toList).length (cellsE (eachS s.data.toList)) ∧ Below w.heap.size w w'

theorem ne32_t {c : UInt8} (h : ¬ c = 32) : (((c.toNat : Int)) != 32) = true := by
  rw [bne_iff_ne]; intro e; apply h; apply UInt8.toNat_inj.1; show c.toNat = 32; omega
theorem ne32_f {c : UInt8} (h : c = 32) : (((c.toNat : Int)) != 32) = false := by subst h; rfl

theorem Head_lit (s : ByteArray) (k : Nat) (w : World) (a : Int) (e0 : Nat) (ok : Bool) (hs : s.size ≤ 1000000000000000) (hk : k ≤ s.size) (h : headS s.data.toList k = (a, e0, ok)) :
    Calls Tryd.prog 69 #[.string s, .int .i64 k] w fun e w' => e = .returned (.tuple #[.int .u32 a, .int .i64 e0, .bool ok]) ∧ w = w' := by
  refine (Head_any s k w hs hk).mono ?_
  rintro e w' ⟨he, hw⟩
  rw [h] at he
  exact ⟨he, hw⟩

theorem two_new (w : World) (x y : Value) (t : TypeId) : ∀ (j : Nat) (u : Value), ([x, y] : List Value)[j]? = some u → (w.alloc (.cells #[x, y] t)).cell? (Addr.add ⟨w.heap.size, 0, none⟩ j) = some u := by
  intro j u h
  match j, h with
  | 0, h => simp at h; subst h; simp [go_sem, Addr.add]
  | 1, h => simp at h; subst h; simp [go_sem, Addr.add]
theorem own_snocE {w : World} {B : Nat} {v : Value} {pre : List (Nat × Int)} {k : Nat} {a : Int} (h : w.ownsRow B 74 2 v (pre.length + 1) (cellsE pre ++ [.int .i64 k, .int .u32 a])) :
    w.ownsRow B 74 2 v (pre ++ [(k, a)]).length (cellsE (pre ++ [(k, a)])) := by
  rw [cellsE_snoc, List.length_append]; exact h

set_option maxRecDepth 100000 in
set_option maxHeartbeats 4000000 in
theorem rEach_any (s : ByteArray) (w : World) (hs : s.size ≤ 1000000) : Calls Tryd.prog 44 #[.string s] w (REachPost s w) := by
  obtain ⟨ib, hi, hz0, hz1, hz2⟩ := info_parts infoOne
  have hlen := eachS_len s.data.toList
  rw [show s.data.toList.length = s.size by simp] at hlen
  go_enter Tryd.func44, Tryd.ntmps44
  go_wp2_with fail
  go_loopw [3, 4] (fun v i wr => ∃ (f k : Nat) (pre : List (Nat × Int)), k ≤ s.size ∧ s.size < f + k ∧ i = .int .i64 k ∧ pre ++ eachL s.data.toList f k = eachS s.data.toList ∧ wr.ownsRow w.heap.size 74 2 v pre.length (cellsE pre) ∧ Below w.heap.size w wr) (fun _ i _ => (s.size + 1 - (intOf i).toNat))
  case atStart => exact ⟨s.size + 1, 0, [], by omega, by omega, rfl, by simp [eachS], World.ownsRow_nil _ _ _ _, Below.refl _ _⟩
  case round =>
    obtain ⟨f, k, pre, hk, hf, rfl, hpre, hown, hB⟩ := hrel
    obtain ⟨f, rfl⟩ : ∃ g, f = g + 1 := ⟨f - 1, by omega⟩
    have hkl : k ≤ s.data.toList.length := by simpa using hk
    have HP := Lib.hid hpre
    have hpl : pre.length ≤ s.size + 1 := by
      have := congrArg List.length hpre
      rw [List.length_append] at this
      omega
    have HO := Lib.hid hown
    clear hpre hown
    by_cases hp : (parseS (Lib.cut (s.data.toList.drop k) [32]).1).2.2 = 0
    · obtain ⟨a, n, hq⟩ : ∃ a n, parseS (Lib.cut (s.data.toList.drop k) [32]).1 = (a, n, 0) := ⟨_, _, by rw [← hp]⟩
      obtain ⟨hh, a0, a1, hm⟩ := each_ok _ k hkl a n hq
      have HQ := Lib.hid hq
      clear hp hq
      generalize hL : (Lib.cut (s.data.toList.drop k) [32]).1.length = L at hh hm
      have HL := Lib.hid hL
      clear hL
      have HH := Lib.hid hh
      clear hh
      rcases hm with ⟨m1, m2, m3⟩ | ⟨m1, m2⟩
      · have hlt : k + L < s.size := by simpa using m2
        have HM := Lib.hid m1
        have t1 : ((((s[k + L]'hlt).toNat : Int)) != 32) = false := ne32_f (by rw [← getD_at s (k + L) hlt]; exact m3)
        have t2 : decide (k + L < s.size) = true := by simp [hlt]
        have t3 : (((k : Int) + (L : Int)) == (s.size : Int)) = false := by rw [beq_eq_false_iff_ne]; omega
        clear m1 m2 m3
        go_wp2_with fail
        refine (Head_lit s k _ a (k + L) true (by omega) hk HH.out).mono ?_
        rintro e w1 ⟨rfl, rfl⟩
        have hown := HO.out
        go_wp2_with (at_builtin; refine wpList_append_own _ rfl _ _ 68 rfl w.heap.size 74 ib (.agg #[.int .i64 0, .int .u32 0]) 2 16 Tryd.underlying68 hi hz0 hz1 hz2 rfl (by decide) u3 _ _ rfl (hown.alloc _) ⟨wr.heap.size, 0, none⟩ 1 1 [.int .i64 k, .int .u32 a] rfl rfl ?c1 ?c2 ?c3 ?c4 ?c5 ?_)
        case c1 => exact two_new _ _ _ _
        case c2 => simp [Value.oneCell']
        case c3 => unfold maxLen; omega
        case c4 => omega
        case c5 => have := hB.size; simp; omega
        intro v1 w1 hown1 hgrow1 _
        have hB1 : Below w.heap.size w w1 := (hB.alloc hB.size _).grown hgrow1 (by have := hB.size; simp; omega) (fun g hg => (HO.out.lt g hg).1)
        have HO1 := Lib.hid (own_snocE hown1)
        clear hown hown1 hgrow1
        go_wp2_with fail
        go_roundw
        case rel =>
          refine ⟨f, k + L + 1, pre ++ [(k, a)], by omega, by omega, by go_num, ?_, HO1.out, hB1⟩
          have := HP.out
          rw [eachL_more _ f k a n HQ.out HM.out, HL.out] at this
          simpa using this
        case measure => simp [intOf]; omega
      · have hlt : k + L = s.size := by simpa using m2
        have HM := Lib.hid m1
        have t2 : decide (k + L < s.size) = false := by simp; omega
        have t3 : (((k : Int) + (L : Int)) == (s.size : Int)) = true := by rw [beq_iff_eq]; omega
        have t4 : ¬ (k : Int) + (L : Int) < (s.size : Int) := by omega
        have Hlt := Lib.hid hlt
        clear m1 m2 hlt
        go_wp2_with fail
        refine (Head_lit s k _ a (k + L) true (by omega) hk HH.out).mono ?_
        rintro e w1 ⟨rfl, rfl⟩
        have hown := HO.out
        go_wp2_with (at_builtin; refine wpList_append_own _ rfl _ _ 68 rfl w.heap.size 74 ib (.agg #[.int .i64 0, .int .u32 0]) 2 16 Tryd.underlying68 hi hz0 hz1 hz2 rfl (by decide) u3 _ _ rfl (hown.alloc _) ⟨wr.heap.size, 0, none⟩ 1 1 [.int .i64 k, .int .u32 a] rfl rfl ?d1 ?d2 ?d3 ?d4 ?d5 ?_)
        case d2 => simp [Value.oneCell']
        case d3 => unfold maxLen; omega
        case d4 => omega
        case d5 => have := hB.size; simp; omega
        intro v1 w1 hown1 hgrow1 _
        have hB1 : Below w.heap.size w w1 := (hB.alloc hB.size _).grown hgrow1 (by have := hB.size; simp; omega) (fun g hg => (HO.out.lt g hg).1)
        have HO1 := Lib.hid (own_snocE hown1)
        clear hown hown1 hgrow1
        go_wp2_with fail
        go_ret
        refine ⟨v1, rfl, ?_, hB1⟩
        have := HP.out
        rw [eachL_last _ f k a n HQ.out HM.out] at this
        rw [← this]
        exact HO1.out
    · have HE := Lib.hid (show eachS s.data.toList = pre by have := HP.out; rw [eachL_bad _ _ k hp, List.append_nil] at this; exact this.symm)
      obtain ⟨a, e0, ok, hh⟩ : ∃ a e0 ok, headS s.data.toList k = (a, e0, ok) := ⟨_, _, _, rfl⟩
      have hn := each_no _ k hkl hp
      rw [hh] at hn
      have HH := Lib.hid hh
      clear hh hp
      cases ok with
      | false =>
        clear hn
        go_wp2_with fail
        refine (Head_lit s k _ a e0 false (by omega) hk HH.out).mono ?_
        rintro e w1 ⟨rfl, rfl⟩
        go_wp2_with fail
        go_ret
        exact ⟨u3, rfl, by rw [HE.out]; exact HO.out, hB⟩
      | true =>
        simp only [Bool.true_eq_false, true_and, false_or] at hn
        obtain ⟨n1, n2⟩ := hn
        have hlt : e0 < s.size := by simpa using n1
        have t1 : ((((s[e0]'hlt).toNat : Int)) != 32) = true := ne32_t (by rw [← getD_at s e0 hlt]; exact n2)
        have t2 : decide (e0 < s.size) = true := by simp [hlt]
        clear n1 n2
        go_wp2_with fail
        refine (Head_lit s k _ a e0 true (by omega) hk HH.out).mono ?_
        rintro e w1 ⟨rfl, rfl⟩
        go_wp2_with fail
        go_ret
        exact ⟨u3, rfl, by rw [HE.out]; exact HO.out, hB⟩
end Go.Proofs.YtmmoccceafcfkaaDoor
