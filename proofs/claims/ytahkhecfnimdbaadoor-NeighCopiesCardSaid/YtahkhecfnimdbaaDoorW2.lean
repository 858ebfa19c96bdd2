/- The law's act: one call by both. -/
import Derived.Test.YtahkhecfnimdbaaDoorW1
import Derived.Test.YtahkhecfnimdbaaDoorK12
namespace Go.Proofs.YtahkhecfnimdbaaDoor
open Go.RowKit Go.Maps

abbrev actV (wt fc bd ad mr : Int) : Value := .agg #[.int .i64 wt, .int .i64 fc, .int .i64 bd, .int .u32 ad, .int .i64 mr]
/-- the three boxes of act -/
structure AB (w w1 : World) (x0 x1 x2 : Value) (wt fc bd ad mr : Int) : Prop where
  b0 : w1.heap[w.heap.size]? = some (.cells #[x0, x1, x2] 47 (0, 0))
  b1 : w1.heap[w.heap.size + 1]? = some (.cells #[.int .i64 wt, .int .i64 fc, .int .i64 bd, .int .u32 ad, .int .i64 mr] 33 (0, 0))
  b2 : w1.heap[w.heap.size + 1 + 1]? = some rnNil
section
variable {w w1 : World} {x0 x1 x2 : Value} {wt fc bd ad mr : Int} (h : AB w w1 x0 x1 x2 wt fc bd ad mr)
include h
theorem AB.sz : w.heap.size + 1 + 1 < w1.heap.size := (Array.getElem?_eq_some_iff.1 h.b2).1
theorem AB.below {w2 : World} (hb : Below w1.heap.size w1 w2) : AB w w2 x0 x1 x2 wt fc bd ad mr :=
  ⟨(hb.block _ (by have := h.sz; omega)).trans h.b0, (hb.block _ (by have := h.sz; omega)).trans h.b1, (hb.block _ h.sz).trans h.b2⟩
theorem AB.kp {w2 : World} {p m : Nat} (hk : Kp p m w1 w2) (hp : p < w.heap.size) (hm : m < w.heap.size) : AB w w2 x0 x1 x2 wt fc bd ad mr :=
  ⟨(hk.block _ (by have := h.sz; omega) (by omega) (by omega)).trans h.b0, (hk.block _ (by have := h.sz; omega) (by omega) (by omega)).trans h.b1, (hk.block _ h.sz (by omega) (by omega)).trans h.b2⟩
theorem AB.d0 : w1.cell? ⟨w.heap.size, 0, none⟩ = some x0 := by simp [World.cell?, h.b0]
theorem AB.d1 : w1.cell? ⟨w.heap.size, 1, none⟩ = some x1 := by simp [World.cell?, h.b0]
theorem AB.d2 : w1.cell? ⟨w.heap.size, 2, none⟩ = some x2 := by simp [World.cell?, h.b0]
theorem AB.a0 : w1.cell? ⟨w.heap.size + 1, 0, none⟩ = some (.int .i64 wt) := by simp [World.cell?, h.b1]
theorem AB.a1 : w1.cell? ⟨w.heap.size + 1, 1, none⟩ = some (.int .i64 fc) := by simp [World.cell?, h.b1]
theorem AB.a2 : w1.cell? ⟨w.heap.size + 1, 2, none⟩ = some (.int .i64 bd) := by simp [World.cell?, h.b1]
theorem AB.a3 : w1.cell? ⟨w.heap.size + 1, 3, none⟩ = some (.int .u32 ad) := by simp [World.cell?, h.b1]
theorem AB.a4 : w1.cell? ⟨w.heap.size + 1, 4, none⟩ = some (.int .i64 mr) := by simp [World.cell?, h.b1]
theorem AB.e0 : w1.cell? ⟨w.heap.size + 1 + 1, 0, none⟩ = some (.slice none 0 0) := by simp [World.cell?, h.b2]
theorem AB.e1 : w1.cell? ⟨w.heap.size + 1 + 1, 1, none⟩ = some (.int .i64 0) := by simp [World.cell?, h.b2]
theorem AB.e2 : w1.cell? ⟨w.heap.size + 1 + 1, 2, none⟩ = some (.int .i64 0) := by simp [World.cell?, h.b2]
theorem AB.f2 (o : Nat) : w1.frozen? ⟨w.heap.size + 1 + 1, o, none⟩ = false := by simp [World.frozen?, h.b2]
end
theorem AB.start (w : World) (x0 x1 x2 : Value) (wt fc bd ad mr : Int) : AB w (((w.alloc (.cells #[x0, x1, x2] 47)).alloc (.cells #[.int .i64 wt, .int .i64 fc, .int .i64 bd, .int .u32 ad, .int .i64 mr] 33)).alloc rnNil) x0 x1 x2 wt fc bd ad mr := by
  refine ⟨?_, ?_, ?_⟩
  · exact (Below.heap_alloc _ _ _ (by simp; omega)).trans ((Below.heap_alloc _ _ _ (by simp)).trans (World.alloc_heap_new w _))
  · refine (Below.heap_alloc _ _ _ (by simp)).trans ?_
    have := World.alloc_heap_new (w.alloc (.cells #[x0, x1, x2] 47)) (.cells #[.int .i64 wt, .int .i64 fc, .int .i64 bd, .int .u32 ad, .int .i64 mr] 33)
    rwa [World.size_alloc] at this
  · have := World.alloc_heap_new ((w.alloc (.cells #[x0, x1, x2] 47)).alloc (.cells #[.int .i64 wt, .int .i64 fc, .int .i64 bd, .int .u32 ad, .int .i64 mr] 33)) rnNil
    rwa [World.size_alloc, World.size_alloc] at this
/-- what is left in a box -/
theorem box3_out {w1 : World} {B : Nat} (h : w1.heap[B]? = some rnNil) (y0 y1 y2 : Value) : (((w1.setCell ⟨B, 0, none⟩ y0).setCell ⟨B, 1, none⟩ y1).setCell ⟨B, 2, none⟩ y2).heap[B]? = some (.cells #[y0, y1, y2] 47 (0, 0)) :=
  heap_setAt (heap_setAt (heap_setAt h 0 _) 1 _) 2 _
theorem box3_other (w1 : World) (B : Nat) (y0 y1 y2 : Value) {j : Nat} (hj : j ≠ B) : (((w1.setCell ⟨B, 0, none⟩ y0).setCell ⟨B, 1, none⟩ y1).setCell ⟨B, 2, none⟩ y2).heap[j]? = w1.heap[j]? :=
  (Below.heap_setCell _ _ _ _ hj).trans ((Below.heap_setCell _ _ _ _ hj).trans (Below.heap_setCell _ _ _ _ hj))

/-- the time that act hands on -/
def atT (now mr : Int) : Int := if 0 ≤ mr ∧ mr < 1000 ∧ now < 2305843009213693952 then now + mr else mr
def okT (now mr : Int) : Bool := decide (0 ≤ mr ∧ mr < 1000 ∧ now < 2305843009213693952)
/-- how both stand behind a call -/
def actS (s : St) (wt fc bd ad mr : Int) : St :=
  if 0 ≤ wt ∧ wt ≤ 5 then (hearO s fc ad (atT s.now mr) bd).2
  else if wt = 6 then ⟨flT (fun r => decide (r.face = fc)) s.T, s.now, s.lost⟩
  else if wt = 7 then ⟨flT (fun r => decide (r.last < mr)) s.T, s.now, s.lost⟩
  else s
/-- what act leaves -/
def ActPost (w w' : World) (p m : Nat) (s' : St) (e : Ending) : Prop :=
  ∃ p' m' base cap, e = .returned (.tuple #[.pointer (some ⟨p', 0, none⟩), RN base s'.T.length cap s'.now s'.lost, .bool true]) ∧ NW w' p' m' s' ∧ RW w' base s' ∧ (p' = p ∧ m' = m ∨ w.heap.size ≤ p' ∧ w.heap.size ≤ m') ∧ Kp p m w w'

theorem NW.of_blocks {w w' : World} {p m : Nat} {s : St} (h : NW w p m s) (hp : w'.heap[p]? = w.heap[p]?) (hm : w'.heap[m]? = w.heap[m]?) (h0 : w'.heap[0]? = w.heap[0]?) : NW w' p m s := by
  obtain ⟨D, ⟨es, clock, hb, F, hs, hD⟩, ht⟩ := h.ns.map
  refine ⟨⟨hp.trans h.ns.box, ⟨D, ⟨es, clock, hm.trans hb, F, hs, hD⟩, ht⟩, h.ns.wf⟩, ⟨?_, ?_⟩, h.len, h.n0, h.n1, h.l0, h.l1⟩
  · have := h.fb.c0
    simp only [World.cell?, h0] at this ⊢
    exact this
  · have := h.fb.c1
    simp only [World.cell?, h0] at this ⊢
    exact this

theorem SL.other {w w' : World} {base : Option Addr} {g B : Nat} {L : List Rec} (h : SL w base g L) (hb : w.heap[B]? = some rnNil) (hs : w.heap.size ≤ w'.heap.size) (ho : ∀ j, j ≠ B → w'.heap[j]? = w.heap[j]?) : SL w' base g L := by
  by_cases hL : L = []
  · subst hL
    exact ⟨Nat.lt_of_lt_of_le h.lt hs, fun _ => rfl, fun i r hr => by simp at hr⟩
  · obtain ⟨q, hq⟩ := List.exists_mem_of_ne_nil L hL
    obtain ⟨j, hj, _⟩ := List.mem_iff_getElem.1 hq
    have h0 : 0 < L.length := by omega
    obtain ⟨_, z0, _⟩ := h.row 0 _ (List.getElem?_eq_getElem h0)
    refine h.of_block (ho g ?_)
    rintro rfl
    unfold World.cell? at z0
    rw [hb] at z0
    simp at z0
theorem set3_size (w1 : World) (B : Nat) (y0 y1 y2 : Value) : (((w1.setCell ⟨B, 0, none⟩ y0).setCell ⟨B, 1, none⟩ y1).setCell ⟨B, 2, none⟩ y2).heap.size = w1.heap.size := by simp [World.setCell]
theorem kp_set3 {p m : Nat} {w w1 : World} (h : Kp p m w w1) {B : Nat} (hB : w.heap.size ≤ B) (y0 y1 y2 : Value) : Kp p m w (((w1.setCell ⟨B, 0, none⟩ y0).setCell ⟨B, 1, none⟩ y1).setCell ⟨B, 2, none⟩ y2) :=
  ⟨h.os, h.tape, h.output, by rw [set3_size]; exact h.size, fun i hi h1 h2 => (box3_other w1 B y0 y1 y2 (by omega)).trans (h.block i hi h1 h2)⟩
/-- what act leaves, where the neighbours stay where they are -/
theorem act_fin {w w4 : World} {p m : Nat} {s s1 s' : St} {base : Option Addr} {cap : Nat} {x0 x1 x2 : Value} {wt fc bd ad mr : Int} (hA : AB w w4 x0 x1 x2 wt fc bd ad mr) (hk : Kp p m w w4) (h0 : NW w p m s) (h : NW w4 p m s1) (hR : RW w4 base s')
    (hp : s1.T.Perm s'.T) (hn : s1.now = s'.now) (hl : s1.lost = s'.lost) :
    ActPost w (((w4.setCell ⟨w.heap.size + 1 + 1, 0, none⟩ (.slice base s'.T.length cap)).setCell ⟨w.heap.size + 1 + 1, 1, none⟩ (.int .i64 s'.now)).setCell ⟨w.heap.size + 1 + 1, 2, none⟩ (.int .i64 s'.lost)) p m s'
      (.returned (.tuple #[.pointer (some ⟨p, 0, none⟩), RN base s'.T.length cap s'.now s'.lost, .bool true])) := by
  have hpl := h0.ns.plt
  have hml := h0.ns.mlt
  refine ⟨p, m, base, cap, rfl, ?_, ?_, .inl ⟨rfl, rfl⟩, kp_set3 hk (by omega) _ _ _⟩
  · have hw := h.of_blocks (w' := (((w4.setCell ⟨w.heap.size + 1 + 1, 0, none⟩ (.slice base s'.T.length cap)).setCell ⟨w.heap.size + 1 + 1, 1, none⟩ (.int .i64 s'.now)).setCell ⟨w.heap.size + 1 + 1, 2, none⟩ (.int .i64 s'.lost))) (box3_other _ _ _ _ _ (by omega)) (box3_other _ _ _ _ _ (by omega)) (box3_other _ _ _ _ _ (by omega))
    have := hw.reorder hp
    rw [hn, hl] at this
    exact this
  · obtain ⟨g, hS⟩ := hR
    exact ⟨g, hS.other hA.b2 (by rw [set3_size]; exact Nat.le_refl _) (fun j hj => box3_other _ _ _ _ _ hj)⟩

set_option maxHeartbeats 4000000 in
set_option maxRecDepth 100000 in
theorem act_hear (p m : Nat) (s : St) (base : Option Addr) (cap : Nat) (wt fc bd ad mr : Int) (w : World) (h : NW w p m s) (hO : OrdT s.T) (hR : RW w base s)
    (a0 : 0 ≤ ad) (a1 : ad < 4294967296) (b1 : bd ≤ 9223372036854775807) (hw : 0 ≤ wt ∧ wt ≤ 5) :
    Calls Tryd.prog 16 #[.pointer (some ⟨p, 0, none⟩), RN base s.T.length cap s.now s.lost, actV wt fc bd ad mr] w (fun e w' => ActPost w w' p m (hearO s fc ad (atT s.now mr) bd).2 e) := by
  have B0 : Below w.heap.size w (((w.alloc (.cells #[.slice base s.T.length cap, .int .i64 s.now, .int .i64 s.lost] 47)).alloc (.cells #[.int .i64 wt, .int .i64 fc, .int .i64 bd, .int .u32 ad, .int .i64 mr] 33)).alloc rnNil) := (((Below.refl _ _).alloc (Nat.le_refl _) _).alloc (by simp) _).alloc (by simp; omega) _
  have ab := AB.start w (.slice base s.T.length cap) (.int .i64 s.now) (.int .i64 s.lost) wt fc bd ad mr
  have H := Lib.hid h
  have HO := Lib.hid hO
  have HR := Lib.hid hR
  have HB0 := Lib.hid B0
  have HAB := Lib.hid ab
  have hn0 := h.n0
  clear h hO hR ab B0
  go_enter Tryd.func16, Tryd.ntmps16
  go_upto_region 1 with fail
  generalize (((w.alloc (.cells #[.slice base s.T.length cap, .int .i64 s.now, .int .i64 s.lost] 47)).alloc (.cells #[.int .i64 wt, .int .i64 fc, .int .i64 bd, .int .u32 ad, .int .i64 mr] 33)).alloc rnNil) = W1 at *
  have d0 := HAB.out.d0
  have d1 := HAB.out.d1
  have d2 := HAB.out.d2
  have q0 := HAB.out.a0
  have q1 := HAB.out.a1
  have q2 := HAB.out.a2
  have q3 := HAB.out.a3
  have q4 := HAB.out.a4
  go_upto_block 0 with fail
  go_step
  go_step
  go_cut [18] (fun v wx => v = .bool true ∧ wx = W1)
  case first => as_aux_lemma =>
    have hv : wt = 0 ∨ wt = 1 ∨ wt = 2 ∨ wt = 3 ∨ wt = 4 ∨ wt = 5 := by omega
    clear d0 d1 d2 q0 q1 q2 q3 q4
    rcases hv with rfl | rfl | rfl | rfl | rfl | rfl
    all_goals (go_wp2_with fail; go_meet; exact ⟨rfl, rfl⟩)
  case rest =>
    obtain ⟨rfl, rfl⟩ := hcut
    go_upto_region 9 with fail
    go_cut [39] (fun v wx => v = .bool (okT s.now mr) ∧ wx = wc)
    case first => as_aux_lemma =>
      go_wp2_with fail
      all_goals (go_meet; exact ⟨congrArg Value.bool (by unfold okT; rw [Bool.eq_iff_iff]; simp; omega), rfl⟩)
    case rest =>
      obtain ⟨rfl, rfl⟩ := hcut
      go_step
      go_cut [9] (fun v wx => v = .int .i64 (atT s.now mr) ∧ wx = wc)
      case first => as_aux_lemma =>
        cases hok : okT s.now mr with
        | true =>
          have hq : 0 ≤ mr ∧ mr < 1000 ∧ s.now < 2305843009213693952 := by simpa [okT] using hok
          have HA := Lib.hid (show atT s.now mr = s.now + mr by unfold atT; rw [if_pos hq])
          obtain ⟨hq1, hq2, hq3⟩ := hq
          clear hok
          go_wp2_with fail
          go_meet
          exact ⟨by rw [HA.out], rfl⟩
        | false =>
          have hq : ¬ (0 ≤ mr ∧ mr < 1000 ∧ s.now < 2305843009213693952) := by simpa [okT] using hok
          have HA := Lib.hid (show atT s.now mr = mr by unfold atT; rw [if_neg hq])
          clear hok hq
          go_wp2_with fail
          go_meet
          exact ⟨by rw [HA.out], rfl⟩
      case rest =>
        obtain ⟨rfl, rfl⟩ := hcut
        generalize htt : atT s.now mr = tt at *
        have HTT := Lib.hid htt
        clear htt
        have hH := rHear_any base cap s fc ad tt bd wc (HR.out.below HB0.out) HO.out H.out.ns.wf H.out.len H.out.n0 H.out.l0 H.out.l1 a0 a1 b1
        have HH := Lib.hid hH
        clear hH
        go_upto_region 12 with (go_at_call 34; refine HH.out.mono ?_; rintro e w2 ⟨⟨base', cap', rfl, hr2⟩, hb2⟩; have HR2 := Lib.hid hr2; have HB2 := Lib.hid hb2; clear hr2 hb2)
        obtain ⟨hq1, hq2, hq3, hq4, hq5⟩ := hearO_eq HO.out fc ad tt bd
        generalize hs' : (hearO s fc ad tt bd).2 = s' at *
        generalize hn' : (hearO s fc ad tt bd).1 = n' at *
        have HS' := Lib.hid hs'
        clear hs' hn' d0 d1 d2 q0 q1 q2 q3 q4 HH
        have B3 : Below w2.heap.size w2 (w2.alloc (.cells #[.slice base' s'.T.length cap', .int .i64 s'.now, .int .i64 s'.lost] 47)) := below_k _ _
        have HB3 := Lib.hid (bthen HB0.out (bthen HB2.out B3))
        have HAB3 := Lib.hid (HAB.out.below (bthen HB2.out B3))
        have HR3 := Lib.hid (HR2.out.below B3)
        have y0 : (w2.alloc (.cells #[.slice base' s'.T.length cap', .int .i64 s'.now, .int .i64 s'.lost] 47)).cell? ⟨w2.heap.size, 0, none⟩ = some (.slice base' s'.T.length cap') := by simp [go_sem]
        have y1 : (w2.alloc (.cells #[.slice base' s'.T.length cap', .int .i64 s'.now, .int .i64 s'.lost] 47)).cell? ⟨w2.heap.size, 1, none⟩ = some (.int .i64 s'.now) := by simp [go_sem]
        have y2 : (w2.alloc (.cells #[.slice base' s'.T.length cap', .int .i64 s'.now, .int .i64 s'.lost] 47)).cell? ⟨w2.heap.size, 2, none⟩ = some (.int .i64 s'.lost) := by simp [go_sem]
        have hX1 : w.heap.size + 1 + 1 < w2.heap.size := (HAB.out.below HB2.out).sz
        clear B3 HB2 HAB HR2
        generalize w2.alloc (.cells #[.slice base' s'.T.length cap', .int .i64 s'.now, .int .i64 s'.lost] 47) = W3 at *
        generalize w2.heap.size = X at *
        have q1 := HAB3.out.a1
        have q2 := HAB3.out.a2
        have q3 := HAB3.out.a3
        have hpl := H.out.ns.plt
        have hml := H.out.ns.mlt
        have HN3 := Lib.hid (H.out.below HB3.out)
        have hc := Hear_any p m s fc ad tt bd W3.drew (HN3.out.below ((Below.refl _ _).drew)) a0 a1 b1
        rw [hq1] at hc
        have HC := Lib.hid hc
        have HQ := Lib.hid (And.intro hq2 (And.intro hq3 (And.intro hq4 hq5)))
        clear hc hq2 hq3 hq4 hq5
        have x1 : X ≠ w.heap.size + 1 + 1 := by omega
        have x2 : w.heap.size + 1 + 1 ≠ X := by omega
        have x3 : w.heap.size + 1 ≠ w.heap.size + 1 + 1 := by omega
        have x4 : w.heap.size + 1 + 1 ≠ w.heap.size + 1 := by omega
        go_region_held3 (fun w' => w'.cell? ⟨X, 0, none⟩ = some (.slice base' s'.T.length cap') ∧ w'.cell? ⟨X, 1, none⟩ = some (.int .i64 s'.now) ∧ w'.cell? ⟨X, 2, none⟩ = some (.int .i64 s'.lost) ∧ w'.cell? ⟨w.heap.size + 1, 1, none⟩ = some (.int .i64 fc) ∧ w'.cell? ⟨w.heap.size + 1, 2, none⟩ = some (.int .i64 bd) ∧ w'.cell? ⟨w.heap.size + 1, 3, none⟩ = some (.int .u32 ad))
          (go_keep)
          (first
            | (with_reducible refine HC.out.mono ?_; rintro e w4 ⟨rfl, hn, hk⟩; have hk3 := (Kp.of_below ((Below.refl _ W3).drew)).trans hk; have ab4 := HAB3.out.kp hk3 hpl hml; have q1 := ab4.a1; have q2 := ab4.a2; have q3 := ab4.a3; have y0 := hk3.cell y0 (by simp; omega) (by simp; omega); have y1 := hk3.cell y1 (by simp; omega) (by simp; omega); have y2 := hk3.cell y2 (by simp; omega) (by simp; omega); have e0 := ab4.e0; have e1 := ab4.e1; have e2 := ab4.e2; have f2 := ab4.f2; have HK4 := Lib.hid hk3; have HN4 := Lib.hid hn; have HAB4 := Lib.hid ab4; clear hn hk hk3 ab4)
            | (with_reducible refine (num_same _ _).mono ?_; rintro e w' ⟨rfl, rfl⟩))
        have hfin := act_fin (wt := wt) (fc := fc) (bd := bd) (ad := ad) (mr := mr) HAB4.out ((Kp.of_below HB3.out).trans HK4.out) H.out HN4.out (HR3.out.kp HN3.out.ns HK4.out) HQ.out.1 HQ.out.2.1 HQ.out.2.2.1 (cap := cap')
        obtain ⟨c0, c1, c2⟩ := cells3_of (box3_out HAB4.out.b2 (.slice base' s'.T.length cap') (.int .i64 s'.now) (.int .i64 s'.lost))
        clear y0 y1 y2 q1 q2 q3 e0 e1 e2 f2
        have HFin := Lib.hid hfin
        clear hfin
        generalize (((w4.setCell ⟨w.heap.size + 1 + 1, 0, none⟩ (.slice base' s'.T.length cap')).setCell ⟨w.heap.size + 1 + 1, 1, none⟩ (.int .i64 s'.now)).setCell ⟨w.heap.size + 1 + 1, 2, none⟩ (.int .i64 s'.lost)) = WF at *
        go_wp2_with fail
        exact bodyPost_ret (v := .tuple #[.pointer (some ⟨p, 0, none⟩), RN base' s'.T.length cap' s'.now s'.lost, .bool true]) (by simp [results, Tryd.results16, go_sem, c0, c1, c2]) rfl (by rw [HTT.out, HS'.out]; exact HFin.out)
end Go.Proofs.YtahkhecfnimdbaaDoor
