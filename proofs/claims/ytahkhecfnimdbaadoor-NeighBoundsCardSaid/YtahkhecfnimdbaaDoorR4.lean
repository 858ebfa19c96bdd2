/- NeighBounds: the walk. -/
import Derived.Test.YtahkhecfnimdbaaDoorR3
import Derived.Deep.LoopGhost
namespace Go.Proofs.YtahkhecfnimdbaaDoor
open Go.RowKit Go.Maps

theorem hearBs (p m i : Nat) (s : St) (w : World) (h : NW w p m s) (hb : HBs i s) (hi : i < 64) :
    Calls Tryd.prog 11 #[.pointer (some ⟨p, 0, none⟩), .int .i64 ((i : Int) % 16), .int .u32 (167772160 + (i : Int)), .int .i64 1, .int .i64 0] w
      fun e w' => e = .returned (.int .i64 0) ∧ (∃ s', NW w' p m s' ∧ HBs (i + 1) s') ∧ Kp p m w w' := by
  rw [show ((i : Int) % 16) = ((i % 16 : Nat) : Int) by omega]
  obtain ⟨h1, h2⟩ := hb.step hi
  refine (Hear_any p m s _ _ 1 0 w h (by omega) (by omega) (by omega)).mono ?_
  rintro e w' ⟨rfl, hn, hk⟩
  exact ⟨by rw [h1], ⟨_, hn, h2⟩, hk⟩

/-- behind the call that may be one too many -/
structure HB1 (K : Nat) (e : Int) (s : St) : Prop where
  e : e = if K = 64 then 3 else 0
  lost : s.lost = if K = 64 then 1 else 0
  len : s.T.length = if K = 64 then 64 else K + 1
  now : s.now = 2
  one : hasR s.T 0 167772160 = true ∧ getR s.T 0 167772160 = ⟨0, 167772160, 1, 1, 0⟩
theorem HBs.more {K : Nat} {s : St} (h : HBs K s) (h0 : 0 < K) (hK : K ≤ 64) : HB1 K (hearS s 3 184549376 2 2147483647).1 (hearS s 3 184549376 2 2147483647).2 := by
  have ha : argB 3 184549376 2147483647 = true := by decide +kernel
  have hn : hasR s.T 3 184549376 = false := hasR_none fun r hr e => by have := (h.adr r hr).2; omega
  have hl := h.len
  have h1 := h.now
  have hlo := h.lost
  obtain ⟨o1, o2⟩ := h.one h0
  unfold hearS
  rw [ha, if_neg (by simp), if_neg (by omega)]
  by_cases h64 : K = 64
  · rw [if_pos (by rw [hn, hl]; exact ⟨rfl, by omega⟩)]
    refine ⟨by rw [if_pos h64], ?_, by rw [if_pos h64, ← h64]; exact hl, rfl, o1, o2⟩
    rw [if_pos h64]
    simp only [hlo]
    rfl
  · rw [if_neg (by rw [hl]; omega)]
    have hup : upR s.T (heardR s.T 3 184549376 2 2147483647) = ⟨3, 184549376, 2, addC (getR s.T 3 184549376).good 1, addC (getR s.T 3 184549376).bad 2147483647⟩ :: s.T := by
      unfold upR heardR
      simp only
      rw [filter_none hn]
    refine ⟨by rw [if_neg h64], ?_, ?_, rfl, ?_, ?_⟩
    · rw [if_neg h64]; exact hlo
    · simp only [hup]; rw [if_neg h64]; simp [hl]
    · simp only [hup]
      unfold hasR at o1 ⊢
      rw [List.any_cons, o1, Bool.or_true]
    · simp only [hup]
      generalize addC (getR s.T 3 184549376).good 1 = gg
      generalize addC (getR s.T 3 184549376).bad 2147483647 = bb
      have hf : atR 0 167772160 ⟨3, 184549376, 2, gg, bb⟩ = false := by simp [atR]
      unfold getR at o2 ⊢
      rw [List.find?_cons, hf]
      exact o2

theorem hearC (p m K : Nat) (s : St) (w : World) (h : NW w p m s) (hb : HBs K s) (h0 : 0 < K) (hK : K ≤ 64) :
    Calls Tryd.prog 11 #[.pointer (some ⟨p, 0, none⟩), .int .i64 3, .int .u32 184549376, .int .i64 2, .int .i64 2147483647] w
      fun e w' => e = .returned (.int .i64 (if K = 64 then 3 else 0)) ∧ (∃ s', NW w' p m s' ∧ HB1 K (if K = 64 then 3 else 0) s') ∧ Kp p m w w' := by
  have h2 := hb.more h0 hK
  refine (Hear_any p m s 3 184549376 2 2147483647 w h (by omega) (by omega) (by omega)).mono ?_
  rintro e w' ⟨rfl, hn, hk⟩
  have he := h2.e
  exact ⟨by rw [he], ⟨_, hn, by rw [he] at h2; exact h2⟩, hk⟩

/-- behind the other two -/
structure HB2 (K : Nat) (good bad : Int) (s : St) : Prop where
  lost : s.lost = if K = 64 then 1 else 0
  len : s.T.length = if K = 64 then 64 else K + 1
  now : s.now = 2
  has : hasR s.T 0 167772160 = true
  good : (getR s.T 0 167772160).good = good
  bad : (getR s.T 0 167772160).bad = bad
theorem hearD (p m K : Nat) (good bad : Int) (s : St) (w : World) (h : NW w p m s) (hb : HB2 K good bad s) :
    Calls Tryd.prog 11 #[.pointer (some ⟨p, 0, none⟩), .int .i64 0, .int .u32 167772160, .int .i64 2, .int .i64 2147483647] w
      fun e w' => e = .returned (.int .i64 0) ∧ (∃ s', NW w' p m s' ∧ HB2 K (addC good 1) (addC bad 2147483647) s') ∧ Kp p m w w' := by
  have ha : argB 0 167772160 2147483647 = true := by decide +kernel
  have he := hear_old (s := s) (nw := 2) ha (by rw [hb.now]; omega) (by omega) hb.has
  refine (Hear_any p m s 0 167772160 2 2147483647 w h (by omega) (by omega) (by omega)).mono ?_
  rintro e w' ⟨rfl, hn, hk⟩
  rw [he] at hn
  rw [he]
  have hu := up_has s.T (heardR s.T 0 167772160 2 2147483647)
  refine ⟨rfl, ⟨_, hn, ⟨hb.lost, ?_, rfl, hu.1, ?_, ?_⟩⟩, hk⟩
  · rw [← hb.len]
    exact up_len _ h.ns.apart hb.has
  · have h1 := congrArg Rec.good hu.2
    have h2 : (heardR s.T 0 167772160 2 2147483647).good = addC good 1 := by unfold heardR; rw [hb.good]
    rw [h2] at h1
    exact h1
  · have h1 := congrArg Rec.bad hu.2
    have h2 : (heardR s.T 0 167772160 2 2147483647).bad = addC bad 2147483647 := by unfold heardR; rw [hb.bad]
    rw [h2] at h1
    exact h1
theorem hearD1 (p m K : Nat) (e0 : Int) (s : St) (w : World) (h : NW w p m s) (hb : HB1 K e0 s) :
    Calls Tryd.prog 11 #[.pointer (some ⟨p, 0, none⟩), .int .i64 0, .int .u32 167772160, .int .i64 2, .int .i64 2147483647] w
      fun e w' => e = .returned (.int .i64 0) ∧ (∃ s', NW w' p m s' ∧ HB2 K 2 2147483647 s') ∧ Kp p m w w' :=
  hearD p m K 1 0 s w h ⟨hb.lost, hb.len, hb.now, hb.one.1, by rw [hb.one.2], by rw [hb.one.2]⟩
theorem hearD2 (p m K : Nat) (s : St) (w : World) (h : NW w p m s) (hb : HB2 K 2 2147483647 s) :
    Calls Tryd.prog 11 #[.pointer (some ⟨p, 0, none⟩), .int .i64 0, .int .u32 167772160, .int .i64 2, .int .i64 2147483647] w
      fun e w' => e = .returned (.int .i64 0) ∧ (∃ s', NW w' p m s' ∧ HB2 K 3 2147483647 s') ∧ Kp p m w w' :=
  hearD p m K 2 2147483647 s w h hb
theorem getD (p m K : Nat) (s : St) (w : World) (h : NW w p m s) (hb : HB2 K 3 2147483647 s) :
    Calls Tryd.prog 14 #[.pointer (some ⟨p, 0, none⟩), .int .i64 0, .int .u32 167772160] w
      fun e w' => (∃ x y z : Int, e = .returned (.tuple #[.agg #[.int .i64 x, .int .u32 y, .int .i64 z, .int .i64 3, .int .i64 2147483647], .bool true])) ∧ Below w.heap.size w w' := by
  refine (Get_any p m s.T s.now s.lost 0 167772160 w h.ns ⟨⟨by omega, by omega⟩, by omega, by omega⟩).mono ?_
  rintro e w' ⟨rfl, hb2⟩
  refine ⟨⟨(getR s.T 0 167772160).face, (getR s.T 0 167772160).addr, (getR s.T 0 167772160).last, ?_⟩, hb2⟩
  rw [hb.has]
  unfold recV
  rw [hb.good, hb.bad]
theorem lostD (p m K : Nat) (s : St) (w : World) (h : NW w p m s) (hb : HB2 K 3 2147483647 s) : Calls Tryd.prog 21 #[.pointer (some ⟨p, 0, none⟩)] w fun e w' => e = .returned (.int .i64 (if K = 64 then 1 else 0)) ∧ w = w' := by
  have := Lost_any p m s.T s.now s.lost w h.ns
  rw [hb.lost] at this
  exact this
theorem nowD (p m K : Nat) (s : St) (w : World) (h : NW w p m s) (hb : HB2 K 3 2147483647 s) : Calls Tryd.prog 22 #[.pointer (some ⟨p, 0, none⟩)] w fun e w' => e = .returned (.int .i64 2) ∧ w = w' := by
  have := Now_any p m s.T s.now s.lost w h.ns
  rw [hb.now] at this
  exact this
theorem lenD (p m K : Nat) (s : St) (w : World) (h : NW w p m s) (hb : HB2 K 3 2147483647 s) : Calls Tryd.prog 15 #[.pointer (some ⟨p, 0, none⟩)] w fun e w' => e = .returned (.int .i64 ((if K = 64 then 64 else K + 1 : Nat) : Int)) ∧ w = w' := by
  have := Len_any p m s.T s.now s.lost w h.ns
  rw [hb.len] at this
  exact this

/-- between two of the first calls -/
def BRel (w : World) (p m K : Nat) (n : Nat) (v : Value) (wr : World) : Prop :=
  ∃ (i : Nat) (s : St), n = K - i ∧ i ≤ K ∧ v = .int .i64 i ∧ NW wr p m s ∧ HBs i s ∧ Below w.heap.size w wr
end Go.Proofs.YtahkhecfnimdbaaDoor
