/- Both Hears side by side: plain; the reference's Hear as one contract. -/
import Derived.Test.YtahkhecfnimdbaaDoorV10
namespace Go.Proofs.YtahkhecfnimdbaaDoor
open Go.RowKit Go.Maps

/-- the reference's Hear, of neighbours in order -/
def hearO (s : St) (f a nw bad : Int) : Int × St :=
  if argB f a bad = false then (2, s)
  else if nw < s.now ∨ 4611686018427387904 < nw then (170, s)
  else match atI f a s.T with
    | some i => (0, ⟨s.T.set i ⟨f, a, nw, addC (getR s.T f a).good 1, addC (getR s.T f a).bad bad⟩, nw, s.lost⟩)
    | none => if 64 ≤ s.T.length then (3, ⟨s.T, nw, addC s.lost 1⟩) else (0, ⟨insT s.T ⟨f, a, nw, 1, addC 0 bad⟩, nw, s.lost⟩)

theorem getR_at {T : List Rec} (hO : OrdT T) {f a : Int} {r : Rec} (hr : r ∈ T) (ha : atR f a r = true) : getR T f a = r := by
  obtain ⟨e1, e2⟩ := atR_iff.1 ha
  rw [← e1, ← e2]
  exact getR_of hO.apart hr
theorem getR_no {T : List Rec} {f a : Int} (h : hasR T f a = false) : (getR T f a).good = 0 ∧ (getR T f a).bad = 0 := by
  unfold getR
  cases hf : T.find? (atR f a) with
  | none => exact ⟨rfl, rfl⟩
  | some r =>
    have : hasR T f a = true := hasR_iff.2 ⟨r, List.mem_of_find?_eq_some hf, atR_iff.1 (List.find?_some hf)⟩
    rw [this] at h
    cases h
theorem hearO_eq {s : St} (hO : OrdT s.T) (f a nw bad : Int) :
    (hearS s f a nw bad).1 = (hearO s f a nw bad).1 ∧ (hearS s f a nw bad).2.T.Perm (hearO s f a nw bad).2.T ∧ (hearS s f a nw bad).2.now = (hearO s f a nw bad).2.now ∧ (hearS s f a nw bad).2.lost = (hearO s f a nw bad).2.lost ∧ OrdT (hearO s f a nw bad).2.T := by
  unfold hearS hearO
  split
  · exact ⟨rfl, List.Perm.refl _, rfl, rfl, hO⟩
  split
  · exact ⟨rfl, List.Perm.refl _, rfl, rfl, hO⟩
  cases hi : atI f a s.T with
  | some i =>
    obtain ⟨r, h1, h2, _⟩ := atI_some hi
    have hm := List.mem_of_getElem? h1
    have hh : hasR s.T f a = true := hasR_iff.2 ⟨r, hm, atR_iff.1 h2⟩
    rw [if_neg (by simp [hh])]
    exact ⟨rfl, (set_perm hO.apart h1 h2).symm, rfl, rfl, set_ord hO h1 h2⟩
  | none =>
    have hh := atI_none.1 hi
    by_cases hl : 64 ≤ s.T.length
    · rw [if_pos ⟨hh, hl⟩]
      dsimp only
      rw [if_pos hl]
      exact ⟨rfl, List.Perm.refl _, rfl, rfl, hO⟩
    · rw [if_neg (fun e => hl e.2)]
      dsimp only
      rw [if_neg hl]
      have hr : heardR s.T f a nw bad = ⟨f, a, nw, 1, addC 0 bad⟩ := by
        obtain ⟨g1, g2⟩ := getR_no hh
        unfold heardR
        rw [g1, g2]
        rfl
      refine ⟨rfl, ?_, rfl, rfl, insT_ord hO hh⟩
      rw [hr, upR_new hh]
      exact (insT_perm _ _).symm

/-- what the reference has in memory -/
def RW (w : World) (base : Option Addr) (s : St) : Prop := ∃ g, SL w base g s.T
theorem RW.below {w w' : World} {base : Option Addr} {s : St} (h : RW w base s) (hb : Below w.heap.size w w') : RW w' base s := h.imp fun _ h => h.below hb
theorem SL.kp {w w' : World} {p m : Nat} {T : List Rec} {now lost : Int} {base : Option Addr} {g : Nat} {L : List Rec} (h : SL w base g L) (hn : NS w p m T now lost) (hk : Kp p m w w') : SL w' base g L := by
  by_cases hL : L = []
  · subst hL
    exact ⟨Nat.lt_of_lt_of_le h.lt hk.size, fun _ => rfl, fun i r hr => by simp at hr⟩
  · obtain ⟨q, hq⟩ := List.exists_mem_of_ne_nil L hL
    obtain ⟨j, hj, _⟩ := List.mem_iff_getElem.1 hq
    have h0 : 0 < L.length := by omega
    obtain ⟨_, z0, _⟩ := h.row 0 _ (List.getElem?_eq_getElem h0)
    refine h.of_block (hk.block g h.lt ?_ ?_)
    · rintro rfl
      have := hn.c0
      rw [show 0 * 5 = 0 from rfl, this] at z0
      cases z0
    · rintro rfl
      obtain ⟨D, ⟨es, clock, hb, _⟩, _⟩ := hn.map
      unfold World.cell? at z0
      rw [hb] at z0
      cases z0
theorem RW.kp {w w' : World} {p m : Nat} {T : List Rec} {now lost : Int} {base : Option Addr} {s : St} (h : RW w base s) (hn : NS w p m T now lost) (hk : Kp p m w w') : RW w' base s := h.imp fun _ h => h.kp hn hk

theorem rHear_any (base : Option Addr) (cap : Nat) (s : St) (f a nw bad : Int) (w : World) (hR : RW w base s) (hO : OrdT s.T) (hW : ∀ r ∈ s.T, r.Wf) (hlen : s.T.length ≤ 64) (n0 : 0 ≤ s.now) (l0 : 0 ≤ s.lost) (l1 : s.lost ≤ 2147483647)
    (a0 : 0 ≤ a) (a1 : a < 4294967296) (b1 : bad ≤ 9223372036854775807) :
    Calls Tryd.prog 34 #[RN base s.T.length cap s.now s.lost, .int .i64 f, .int .u32 a, .int .i64 nw, .int .i64 bad] w
      fun e w' => (∃ base' cap', e = .returned (.tuple #[RN base' (hearO s f a nw bad).2.T.length cap' (hearO s f a nw bad).2.now (hearO s f a nw bad).2.lost, .int .i64 (hearO s f a nw bad).1]) ∧ RW w' base' (hearO s f a nw bad).2) ∧ Below w.heap.size w w' := by
  obtain ⟨g, hS⟩ := hR
  unfold hearO
  cases hB : argB f a bad with
  | false =>
    refine (rHear_arg base cap s.T.length s.now s.lost f a nw bad w a0 a1 hB).mono ?_
    rintro e w' ⟨rfl, hb⟩
    exact ⟨⟨base, cap, rfl, g, hS.below hb⟩, hb⟩
  | true =>
    rw [if_neg (by simp)]
    by_cases hT : nw < s.now ∨ 4611686018427387904 < nw
    · rw [if_pos hT]
      refine (rHear_time base cap s.T.length s.now s.lost f a nw bad w a0 a1 hB (by unfold timeB; rcases hT with h | h; exact .inr h; exact .inl (by simp; omega))).mono ?_
      rintro e w' ⟨rfl, hb⟩
      exact ⟨⟨base, cap, rfl, g, hS.below hb⟩, hb⟩
    · rw [if_neg hT]
      cases hi : atI f a s.T with
      | some i =>
        obtain ⟨r, h1, h2, _⟩ := atI_some hi
        have hm := List.mem_of_getElem? h1
        dsimp only
        rw [getR_at hO hm h2]
        cases base with
        | none => rw [hS.nil rfl] at hm; cases hm
        | some ad =>
          refine (rHear_old ad g cap i s.T r s.now s.lost f a nw bad w hS (by omega) a0 a1 hB n0 (by omega) (by omega) b1 hi h1 (atR_iff.1 h2) (hW r hm)).mono ?_
          rintro e w' ⟨⟨v, rfl, b', g', c', rfl, hs⟩, hb⟩
          exact ⟨⟨b', c', rfl, g', hs⟩, hb⟩
      | none =>
        dsimp only
        by_cases hl : 64 ≤ s.T.length
        · rw [if_pos hl]
          cases base with
          | none => rw [hS.nil rfl] at hl; simp at hl
          | some ad =>
            refine (rHear_full ad g cap s.T s.now s.lost f a nw bad w hS (by omega) a0 a1 hB n0 (by omega) (by omega) b1 hi hl l0 l1).mono ?_
            rintro e w' ⟨⟨v, rfl, b', g', c', rfl, hs⟩, hb⟩
            exact ⟨⟨b', c', rfl, g', hs⟩, hb⟩
        · rw [if_neg hl]
          cases base with
          | none =>
            have e0 := hS.nil rfl
            rw [e0]
            refine (rHear_new_none cap s.now s.lost f a nw bad w a0 a1 hB n0 (by omega) (by omega) b1).mono ?_
            rintro e w' ⟨⟨v, rfl, b', g', c', rfl, hs⟩, hb⟩
            exact ⟨⟨b', c', rfl, g', hs⟩, hb⟩
          | some ad =>
            refine (rHear_new_some ad g cap s.T s.now s.lost f a nw bad w hS (by omega) a0 a1 hB n0 (by omega) (by omega) b1 hi (by omega)).mono ?_
            rintro e w' ⟨⟨v, rfl, b', g', c', rfl, hs⟩, hb⟩
            exact ⟨⟨b', c', rfl, g', hs⟩, hb⟩
end Go.Proofs.YtahkhecfnimdbaaDoor
