/- Hear as one contract; works. -/
import Derived.Test.YtahkhecfnimdbaaDoorK8
namespace Go.Proofs.YtahkhecfnimdbaaDoor
open Go.RowKit Go.Maps

structure St where
  T : List Rec
  now : Int
  lost : Int
/-- the neighbours in memory, with the bounds that they keep -/
structure NW (W : World) (p m : Nat) (s : St) : Prop where
  ns : NS W p m s.T s.now s.lost
  fb : FB W
  len : s.T.length ≤ 64
  n0 : 0 ≤ s.now
  n1 : s.now ≤ 4611686018427387904
  l0 : 0 ≤ s.lost
  l1 : s.lost ≤ 2147483647

def hearS (s : St) (f a nw bad : Int) : Int × St :=
  if argB f a bad = false then (2, s)
  else if nw < s.now ∨ 4611686018427387904 < nw then (170, s)
  else if hasR s.T f a = false ∧ 64 ≤ s.T.length then (3, ⟨s.T, nw, addC s.lost 1⟩)
  else (0, ⟨upR s.T (heardR s.T f a nw bad), nw, s.lost⟩)

theorem FB.kept {w w' : World} {p m : Nat} (h : FB w) (hk : Kp p m w w') (hp : p ≠ 0) (hm : m ≠ 0) : FB w' := ⟨hk.cell h.c0 (Ne.symm hp) (Ne.symm hm), hk.cell h.c1 (Ne.symm hp) (Ne.symm hm)⟩
theorem NS.p0 {w : World} {p m : Nat} {T : List Rec} {now lost : Int} (h : NS w p m T now lost) (hF : FB w) : p ≠ 0 := by
  intro e
  have h1 := h.c0
  have h2 := hF.c0
  rw [e, h2] at h1
  simp at h1
theorem NS.m0 {w : World} {p m : Nat} {T : List Rec} {now lost : Int} (h : NS w p m T now lost) (hF : FB w) : m ≠ 0 := by
  intro e
  obtain ⟨D, ⟨es, clock, hb, _⟩, _⟩ := h.map
  have h2 := hF.c0
  unfold World.cell? at h2
  rw [← e, hb] at h2
  cases h2

theorem upR_len {T : List Rec} {r : Rec} (hl : T.length ≤ 64) (h : hasR T r.face r.addr = true ∨ T.length < 64) : (upR T r).length ≤ 64 := by
  unfold upR
  have h1 := List.length_filter_le (fun s => !atR r.face r.addr s) T
  rcases h with h | h
  · have h2 : (T.filter fun s => !atR r.face r.addr s).length < T.length := by
      rw [List.length_filter_lt_length_iff_exists]
      unfold hasR at h
      obtain ⟨s, hs, ha⟩ := List.any_eq_true.1 h
      exact ⟨s, hs, by simp [ha]⟩
    simp only [List.length_cons]
    omega
  · simp only [List.length_cons]
    omega
theorem addC_le {x y : Int} (h0 : 0 ≤ x) (h1 : x ≤ 2147483647) (h2 : 0 ≤ y) : 0 ≤ addC x y ∧ addC x y ≤ 2147483647 := by unfold addC; split <;> omega

theorem NW.below {w w' : World} {p m : Nat} {s : St} (h : NW w p m s) (hb : Below w.heap.size w w') : NW w' p m s := ⟨h.ns.below hb, h.fb.below hb, h.len, h.n0, h.n1, h.l0, h.l1⟩

theorem Hear_any (p m : Nat) (s : St) (f a nw bad : Int) (w : World) (h : NW w p m s) (a0 : 0 ≤ a) (a1 : a < 4294967296) (b1 : bad ≤ 9223372036854775807) :
    Calls Tryd.prog 11 #[.pointer (some ⟨p, 0, none⟩), .int .i64 f, .int .u32 a, .int .i64 nw, .int .i64 bad] w
      fun e w' => e = .returned (.int .i64 (hearS s f a nw bad).1) ∧ NW w' p m (hearS s f a nw bad).2 ∧ Kp p m w w' := by
  unfold hearS
  cases hB : argB f a bad with
  | false =>
    refine (Hear_arg p m s.T s.now s.lost f a nw bad w h.ns h.fb a0 a1 hB).mono ?_
    rintro e w' ⟨rfl, hb⟩
    exact ⟨rfl, h.below hb, Kp.of_below hb⟩
  | true =>
    rw [if_neg (by simp)]
    by_cases hT : nw < s.now ∨ 4611686018427387904 < nw
    · rw [if_pos hT]
      refine (Hear_time p m s.T s.now s.lost f a nw bad w h.ns h.fb a0 a1 hB hT).mono ?_
      rintro e w' ⟨rfl, hb⟩
      exact ⟨rfl, h.below hb, Kp.of_below hb⟩
    · rw [if_neg hT]
      have hT2 : s.now ≤ nw ∧ nw ≤ 4611686018427387904 := by omega
      have hn0 := h.n0
      by_cases hL : hasR s.T f a = false ∧ 64 ≤ s.T.length
      · rw [if_pos hL]
        refine (Hear_long p m s.T s.now s.lost f a nw bad w h.ns h.fb a0 a1 hB hT2 hL.1 hL.2 h.l0 h.l1).mono ?_
        rintro e w' ⟨rfl, hn, hk⟩
        have := addC_le h.l0 h.l1 (y := 1) (by omega)
        exact ⟨rfl, ⟨hn, h.fb.kept hk (h.ns.p0 h.fb) (h.ns.m0 h.fb), h.len, by show 0 ≤ nw; omega, hT2.2, this.1, this.2⟩, hk⟩
      · rw [if_neg hL]
        cases hN : hasR s.T f a with
        | true =>
          refine (Hear_ok1 p m s.T s.now s.lost f a nw bad w h.ns h.fb a0 a1 hB b1 hT2 hN h.len h.n0).mono ?_
          rintro e w' ⟨rfl, hn, hk⟩
          exact ⟨rfl, ⟨hn, h.fb.kept hk (h.ns.p0 h.fb) (h.ns.m0 h.fb), upR_len h.len (Or.inl hN), by show 0 ≤ nw; omega, hT2.2, h.l0, h.l1⟩, hk⟩
        | false =>
          have hlt : s.T.length < 64 := by
            have := h.len
            rcases Nat.lt_or_ge s.T.length 64 with h' | h'
            · exact h'
            · exact absurd ⟨hN, h'⟩ hL
          refine (Hear_ok2 p m s.T s.now s.lost f a nw bad w h.ns h.fb a0 a1 hB b1 hT2 hN hlt h.n0).mono ?_
          rintro e w' ⟨rfl, hn, hk⟩
          exact ⟨rfl, ⟨hn, h.fb.kept hk (h.ns.p0 h.fb) (h.ns.m0 h.fb), upR_len h.len (Or.inr hlt), by show 0 ≤ nw; omega, hT2.2, h.l0, h.l1⟩, hk⟩

theorem NW.grown {w w' : World} {p m : Nat} {s : St} {T : List Rec} (h : NW w p m s) (hn : NS w' p m T s.now s.lost) (hg : w.grownBy w' (some m)) (hl : T.length ≤ s.T.length) : NW w' p m ⟨T, s.now, s.lost⟩ :=
  ⟨hn, h.fb.kept (Kp.of_grown hg) (h.ns.p0 h.fb) (h.ns.m0 h.fb), by have := h.len; show T.length ≤ 64; omega, h.n0, h.n1, h.l0, h.l1⟩
theorem Forget_nw (p m : Nat) (s : St) (f : Int) (w : World) (h : NW w p m s) :
    Calls Tryd.prog 12 #[.pointer (some ⟨p, 0, none⟩), .int .i64 f] w
      fun e w' => e = .returned (.int .i64 (s.T.length - (forgetT f s.T).length)) ∧ NW w' p m ⟨forgetT f s.T, s.now, s.lost⟩ ∧ Kp p m w w' := by
  have := h.len
  refine (Forget_any p m s.T s.now s.lost f w h.ns (by omega)).mono ?_
  rintro e w' ⟨rfl, hn, hg⟩
  exact ⟨rfl, h.grown hn hg (List.length_filter_le _ _), Kp.of_grown hg⟩
theorem Since_nw (p m : Nat) (s : St) (f : Int) (w : World) (h : NW w p m s) :
    Calls Tryd.prog 13 #[.pointer (some ⟨p, 0, none⟩), .int .i64 f] w
      fun e w' => e = .returned (.int .i64 (s.T.length - (sinceT f s.T).length)) ∧ NW w' p m ⟨sinceT f s.T, s.now, s.lost⟩ ∧ Kp p m w w' := by
  have := h.len
  refine (Since_any p m s.T s.now s.lost f w h.ns (by omega)).mono ?_
  rintro e w' ⟨rfl, hn, hg⟩
  exact ⟨rfl, h.grown hn hg (List.length_filter_le _ _), Kp.of_grown hg⟩
theorem New_nw (w : World) (hF : FB w) :
    Calls Tryd.prog 9 #[] w fun e w' => (∃ p m, e = .returned (.pointer (some ⟨p, 0, none⟩)) ∧ NW w' p m ⟨[], 0, 0⟩ ∧ w.heap.size ≤ p ∧ w.heap.size ≤ m) ∧ Below w.heap.size w w' := by
  refine (New_any w).mono ?_
  rintro e w' ⟨⟨p, m, rfl, hn, h1, h2⟩, hb⟩
  exact ⟨⟨p, m, rfl, ⟨hn, hF.below hb, by simp, by simp, by simp, by simp, by simp⟩, h1, h2⟩, hb⟩
end Go.Proofs.YtahkhecfnimdbaaDoor
