/- The law's played: any calls by both. -/
import Derived.Test.YtbacahoihkpkpaaDoorU9
import Derived.RegionTactic
namespace Go.Proofs.YtbacahoihkpkpaaDoor
open Go.RowKit Go.Shelf Go.Maps

theorem PW.set {w0 W : World} {q g : Nat} {t : TT} {v : Value} (h : PW w0 W q t g v) {B : Nat} (hB : w0.heap.size ≤ B) (hn : B ∉ q :: t.blocks) (hg : B ≠ g) (hz : 0 < B) (o : Nat) (u : Value) : PW w0 (W.setCell ⟨B, o, none⟩ u) q t g v :=
  ⟨⟨h.tw.st.of_blocks fun c hc => heapS _ _ _ _ c (fun e => hn (e ▸ hc)), h.tw.rel.kp (heapS _ _ _ _ 0 (by omega)), h.tw.bl.setCell (p := ⟨B, o, none⟩) hB u, h.tw.ge⟩, h.rt.of_block (heapS _ _ _ _ _ (fun e => hg e.symm)), h.ap⟩
theorem PW.weak {w0 w1 W : World} {q g : Nat} {t : TT} {v : Value} (h : PW w1 W q t g v) (hb : Below w0.heap.size w0 w1) : PW w0 W q t g v :=
  ⟨⟨h.tw.st, h.tw.rel, bthen hb h.tw.bl, fun c hc => Nat.le_trans hb.size (h.tw.ge c hc)⟩, h.rt, h.ap⟩
/-- a box that both leave alone -/
structure Apart (W : World) (B : Nat) (q : Nat) (t : TT) (g : Nat) : Prop where
  lt : B < W.heap.size
  nb : B ∉ q :: t.blocks
  ng : B ≠ g
theorem Apart.act {w0 W W' : World} {B q g q' g' : Nat} {t t' : TT} {v' : Value} (h : Apart W B q t g) (hA : Acted w0 W W' q t g q' t' g' v') : Apart W' B q' t' g' ∧ W'.heap[B]? = W.heap[B]? := by
  refine ⟨⟨Nat.lt_of_lt_of_le h.lt hA.kb.size, fun hm => ?_, ?_⟩, hA.kb.block B h.lt h.nb⟩
  · rcases hA.nb _ hm with h1 | h1
    · exact h.nb h1
    · have := h.lt; omega
  · rcases hA.ng with h1 | h1
    · rw [h1]; exact h.ng
    · have := h.lt; omega
theorem Apart.size {W W' : World} {B q g : Nat} {t : TT} (h : Apart W B q t g) (hs : W.heap.size ≤ W'.heap.size) : Apart W' B q t g := ⟨Nat.lt_of_lt_of_le h.lt hs, h.nb, h.ng⟩

/-- the boxes of played: its result's, the list's -/
structure PL (w W : World) (q : Nat) (t : TT) (g : Nat) (sl : Value) : Prop where
  pw : PW w W q t g (.agg #[sl])
  a3 : Apart W w.heap.size q t g
  a6 : Apart W (w.heap.size + 1 + 1) q t g
  b3 : OneB W w.heap.size (.slice none 0 0) 31
  b6 : OneB W (w.heap.size + 1 + 1) sl 31
theorem PL.act {w W W' : World} {q g q' g' : Nat} {t t' : TT} {sl sl' : Value} (h : PL w W q t g sl) (hA : Acted w W W' q t g q' t' g' (.agg #[sl'])) : PL w (W'.setCell ⟨w.heap.size + 1 + 1, 0, none⟩ sl') q' t' g' sl' := by
  obtain ⟨x3, y3⟩ := h.a3.act hA
  obtain ⟨x6, y6⟩ := h.a6.act hA
  exact ⟨hA.pw.set (by omega) x6.nb x6.ng (by omega) 0 sl', x3.size (by simp), x6.size (by simp), (show OneB W' w.heap.size (.slice none 0 0) 31 from y3.trans h.b3).other (by omega), (show OneB W' (w.heap.size + 1 + 1) sl 31 from y6.trans h.b6).set sl'⟩
theorem PL.drew {w W : World} {q g : Nat} {t : TT} {sl : Value} (h : PL w W q t g sl) : PL w W.drew q t g sl :=
  ⟨h.pw.below (Below.refl _ _).drew, ⟨h.a3.lt, h.a3.nb, h.a3.ng⟩, ⟨h.a6.lt, h.a6.nb, h.a6.ng⟩, h.b3, h.b6⟩
theorem PL.start (w : World) (hR : RelsAt w) : PL w (((w.alloc (.cells #[.slice none 0 0] 31)).alloc (.cells #[.pointer none, .int .i64 0, .bool true] 84)).alloc (.cells #[.slice none 0 0] 31)) (w.heap.size + 1) .nil 0 (.slice none 0 0) := by
  have b1 : Below w.heap.size w (w.alloc (.cells #[.slice none 0 0] 31)) := (Below.refl _ w).alloc (Nat.le_refl _) _
  have h1 := PW.new (w.alloc (.cells #[.slice none 0 0] 31)) (hR.below b1)
  rw [World.size_alloc] at h1
  have hz := World.block_lt_of_cell? w _ hR.c0
  simp only at hz
  refine ⟨(h1.weak b1).below ((Below.refl _ _).alloc (Nat.le_refl _) _), ⟨by simp; omega, by simp [TT.blocks], by omega⟩, ⟨by simp, by simp [TT.blocks], by omega⟩, ((OneB.new w _ _).alloc _).alloc _, ?_⟩
  have := OneB.new ((w.alloc (.cells #[.slice none 0 0] 31)).alloc (.cells #[.pointer none, .int .i64 0, .bool true] 84)) (.slice none 0 0) 31
  simpa using this

def plRel (w : World) (k m : Nat) (v5 v7 v8 : Value) (wr : World) : Prop :=
  ∃ (i q : Nat) (t : TT) (g : Nat) (b : Option Addr) (c : Nat), m = k - i ∧ i ≤ k ∧ v5 = .pointer (some ⟨q, 0, none⟩) ∧ v7 = .bool true ∧ v8 = .int .i64 i ∧ PL w wr q t g (.slice b t.rows.length c) ∧ t.rows.length ≤ i

set_option maxRecDepth 100000 in
set_option maxHeartbeats 8000000 in
theorem played_any (w : World) (hR : RelsAt w) (base : Option Addr) (b o k c : Nat) (what a n val : Nat → Int) (h : ActsIn w base b o k what a n val) (hk : k ≤ 100) :
    Calls Tryd.prog 10 #[.slice base k c] w fun e w' => ∃ q t g v, e = .returned (.tuple #[.pointer (some ⟨q, 0, none⟩), v, .bool true]) ∧ PW w w' q t g v ∧ t.rows.length ≤ k := by
  have HI := Lib.hid h
  have HPL := Lib.hid (PL.start w hR)
  clear h hR
  go_enter Tryd.func10, Tryd.ntmps10
  go_upto_region 2 with (first
    | (go_at_call 18; with_reducible refine (New_any _).mono ?_; rintro e w1 ⟨rfl, rfl⟩)
    | fail)
  have hPL := HPL.out
  clear HPL
  generalize (((w.alloc (.cells #[.slice none 0 0] 31)).alloc (.cells #[.pointer none, .int .i64 0, .bool true] 84)).alloc (.cells #[.slice none 0 0] 31)) = X at *
  have HPL := Lib.hid hPL
  clear hPL
  go_wp2_with fail
  go_loopg [5, 7, 8] k (plRel w k)
  case atStart => exact ⟨0, _, .nil, 0, none, 0, rfl, by omega, by simp, rfl, rfl, HPL.out, by simp [TT.rows]⟩
  case round =>
    clear HPL
    obtain ⟨i, q, t, g, sb, sc, hn, hik, rfl, rfl, rfl, hpl, hlen⟩ := hrel
    have Hn := Lib.hid hn
    have HPl := Lib.hid hpl
    clear hn hpl
    by_cases hlt : i < k
    · have hin := HI.out.below HPl.out.pw.tw.bl
      obtain rfl := hin.is (by omega)
      obtain ⟨a0, a1, a2, a3⟩ := hin.c i hlt
      have hB := hin.bd i
      obtain ⟨d0, d1⟩ := hB.a
      generalize hwt : what i = wt' at *
      generalize hfc : a i = a' at *
      generalize hbd : n i = n' at *
      generalize hae : val i = x' at *
      clear hwt hfc hbd hae hB
      have hbl := HI.out.lt
      clear hin
      have HA := Lib.hid (act_any w q g t _ wt' a' n' x' wr.drew HPl.out.drew.pw d0 d1 (by omega))
      have c6 := HPl.out.b6.c
      have i1 : (0 : Int) ≤ (i : Int) := by omega
      have i2 : (i : Int) < (k : Int) := by omega
      go_upto_block 1 with fail
      go_cut [5, 7] (fun v5 v7 wx => ∃ (q' : Nat) (t' : TT) (g' : Nat) (b' : Option Addr) (c' : Nat), v5 = .pointer (some ⟨q', 0, none⟩) ∧ v7 = .bool true ∧ PL w wx q' t' g' (.slice b' t'.rows.length c') ∧ t'.rows.length ≤ i + 1)
      case first => as_aux_lemma =>
        go_upto_region 6 with fail
        go_region_with ((((with_reducible refine HA.out.mono ?_)); rintro e w2 ⟨q', t', g', v', rfl, hA, hl2⟩; obtain ⟨b', c', rfl, _, _⟩ := hA.pw.rt.ex; have hPL2 := HPl.out.drew.act hA; have h6 := HPl.out.drew.a6.act hA; have e6 := (show OneB w2 (w.heap.size + 1 + 1) (.slice sb t.rows.length sc) 31 from h6.2.trans HPl.out.b6).c; have f6 := (show OneB w2 (w.heap.size + 1 + 1) (.slice sb t.rows.length sc) 31 from h6.2.trans HPl.out.b6).f; have HPL2 := Lib.hid hPL2; clear hA hPL2 h6))
        all_goals
          clear a0 a1 a2 a3 c6 e6 f6
          generalize (w2.setCell ⟨w.heap.size + 1 + 1, 0, none⟩ (.slice b' t'.rows.length c')) = WF at *
          go_wp2_with fail
          go_meet
          exact ⟨q', t', g', b', c', rfl, rfl, HPL2.out, by omega⟩
      case rest =>
        obtain ⟨q', t', g', b', c', rfl, rfl, hst, hl2⟩ := hcut
        have HST := Lib.hid hst
        clear hst a0 a1 a2 a3 c6
        go_wp2_with fail
        go_roundg (k - (i + 1))
        case measure => have := Hn.out; omega
        case rel => exact ⟨i + 1, q', t', g', b', c', rfl, by omega, rfl, rfl, by go_num, HST.out, hl2⟩
    · obtain rfl : i = k := by omega
      have c6 := HPl.out.b6.c
      have c3 := HPl.out.b3.c
      have f3 := HPl.out.b3.f
      go_upto_region 7 with fail
      go_region_held3 (fun w' => w'.cell? ⟨w.heap.size + 1 + 1, 0, none⟩ = some (.slice sb t.rows.length sc))
        (first | exact (set_far (by omega)).trans c6 | go_keep) (fail)
      all_goals
        go_wp2_with fail
        have hp := (HPl.out.pw.set (Nat.le_refl _) HPl.out.a3.nb HPl.out.a3.ng (by have := HPl.out.pw.tw.bl.size; have := HI.out.lt; omega) 0 (.slice sb t.rows.length sc)).below (Below.refl _ _).drew
        have hq : OneB (wr.setCell ⟨w.heap.size, 0, none⟩ (.slice sb t.rows.length sc)).drew w.heap.size (.slice sb t.rows.length sc) 31 := HPl.out.b3.set _
        generalize (wr.setCell ⟨w.heap.size, 0, none⟩ (.slice sb t.rows.length sc)).drew = V at *
        have q0 := hq.c
        exact bodyPost_ret (v := .tuple #[.pointer (some ⟨q, 0, none⟩), .agg #[.slice sb t.rows.length sc], .bool true]) (by simp [results, Tryd.results10, go_sem, q0]) rfl ⟨q, t, g, _, rfl, hp, hlen⟩
end Go.Proofs.YtbacahoihkpkpaaDoor
