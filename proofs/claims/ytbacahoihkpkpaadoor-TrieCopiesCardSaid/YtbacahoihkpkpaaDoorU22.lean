/- TriePlays: the walk. -/
import Derived.Test.YtbacahoihkpkpaaDoorU10
import Derived.Test.YtbacahoihkpkpaaDoorU21
namespace Go.Proofs.YtbacahoihkpkpaaDoor
open Go.RowKit Go.Shelf Go.Maps

theorem Acted.pre {w0 w w1 W : World} {q g q' g' : Nat} {t t' : TT} {v' : Value} (h : Acted w0 w1 W q t g q' t' g' v') (hb : Below w.heap.size w w1) : Acted w0 w W q t g q' t' g' v' :=
  ⟨h.pw, KB.thenB hb h.kb, fun c hc => by rcases h.nb c hc with h1 | h1; exact .inl h1; exact .inr (Nat.le_trans hb.size h1), by rcases h.ng with h1 | h1; exact .inl h1; exact .inr (Nat.le_trans hb.size h1)⟩
/-- behind the call: the trie, the list, in a box of its own -/
def R7 (w0 wr : World) (q : Nat) (t : TT) (g : Nat) (v6 v7 v8 : Value) (wx : World) : Prop :=
  ∃ (q' : Nat) (t' : TT) (g' X : Nat) (b' : Option Addr) (c' : Nat), v6 = .pointer (some ⟨q', 0, none⟩) ∧ v7 = .pointer (some ⟨X, 0, none⟩) ∧ v8 = .bool true ∧ OneB wx X (.slice b' t'.rows.length c') 31 ∧ wr.heap.size ≤ X ∧ Acted w0 wr wx q t g q' t' g' (.agg #[.slice b' t'.rows.length c']) ∧ t'.rows.length ≤ t.rows.length + 1
theorem R7.late {w0 wr w2 : World} {q g q' g' : Nat} {t t' : TT} {b' : Option Addr} {c' : Nat} (hA : Acted w0 wr.drew w2 q t g q' t' g' (.agg #[.slice b' t'.rows.length c'])) (hl : t'.rows.length ≤ t.rows.length + 1) :
    R7 w0 wr q t g (.pointer (some ⟨q', 0, none⟩)) (.pointer (some ⟨w2.heap.size, 0, none⟩)) (.bool true) (w2.alloc (.cells #[.slice b' t'.rows.length c'] 31)) := by
  have h1 := hA.pre (w := wr) (Below.refl _ _).drew
  exact ⟨q', t', g', _, b', c', rfl, rfl, rfl, OneB.new _ _ _, h1.kb.size, h1.below ((Below.refl _ _).alloc (Nat.le_refl _) _), hl⟩
theorem R7.early {w0 wr w2 : World} {q g q' g' : Nat} {t t' : TT} {v : Value} {b' : Option Addr} {c' : Nat} (h : PW w0 wr q t g v) (hA : Acted w0 (wr.alloc (.cells #[.slice none 0 0] 31)).drew w2 q t g q' t' g' (.agg #[.slice b' t'.rows.length c'])) (hl : t'.rows.length ≤ t.rows.length + 1) :
    R7 w0 wr q t g (.pointer (some ⟨q', 0, none⟩)) (.pointer (some ⟨wr.heap.size, 0, none⟩)) (.bool true) (w2.setCell ⟨wr.heap.size, 0, none⟩ (.slice b' t'.rows.length c')) := by
  have hap : Apart (wr.alloc (.cells #[.slice none 0 0] 31)).drew wr.heap.size q t g := ⟨by show _ < (wr.alloc _).heap.size; simp, fun hm => by
    rcases List.mem_cons.1 hm with e | hm
    · have := h.tw.st.lt; omega
    · have := h.tw.st.here.lt hm; omega, fun e => by have := h.rt.lt; omega⟩
  obtain ⟨a1, a2⟩ := hap.act hA
  have hb : OneB w2 wr.heap.size (.slice none 0 0) 31 := a2.trans (OneB.new wr _ _)
  have h1 := hA.pre (w := wr) ((Below.refl _ wr).alloc (Nat.le_refl _) _).drew
  exact ⟨q', t', g', _, b', c', rfl, rfl, rfl, hb.set _, Nat.le_refl _, h1.set h.tw.bl.size (Nat.le_refl _) a1.nb a1.ng (by have := h.tw.st.lt; omega) 0 _, hl⟩

/-- the box of the list in the law -/
structure PT (w W : World) (q : Nat) (t : TT) (g : Nat) (sl : Value) : Prop where
  pw : PW w W q t g (.agg #[sl])
  a4 : Apart W (w.heap.size + 1) q t g
  b4 : OneB W (w.heap.size + 1) sl 31
theorem PT.start (w : World) (hR : RelsAt w) : PT w ((w.alloc (.cells #[.pointer none, .int .i64 0, .bool true] 84)).alloc (.cells #[.slice none 0 0] 31)) w.heap.size .nil 0 (.slice none 0 0) := by
  have hz := World.block_lt_of_cell? w _ hR.c0
  simp only at hz
  refine ⟨(PW.new w hR).below ((Below.refl _ _).alloc (Nat.le_refl _) _), ⟨by simp, by simp [TT.blocks], by omega⟩, ?_⟩
  have := OneB.new (w.alloc (.cells #[.pointer none, .int .i64 0, .bool true] 84)) (.slice none 0 0) 31
  simpa using this
theorem PT.below {w W W' : World} {q g : Nat} {t : TT} {sl : Value} (h : PT w W q t g sl) (hb : Below W.heap.size W W') : PT w W' q t g sl := ⟨h.pw.below hb, h.a4.size hb.size, h.b4.below hb⟩
theorem PT.act {w W W' : World} {q g q' g' : Nat} {t t' : TT} {sl sl' : Value} (h : PT w W q t g sl) (hA : Acted w W W' q t g q' t' g' (.agg #[sl'])) : PT w (W'.setCell ⟨w.heap.size + 1, 0, none⟩ sl') q' t' g' sl' := by
  obtain ⟨x4, y4⟩ := h.a4.act hA
  exact ⟨hA.pw.set (by omega) x4.nb x4.ng (by omega) 0 sl', x4.size (by simp), (show OneB W' (w.heap.size + 1) sl 31 from y4.trans h.b4).set sl'⟩

theorem getA_at {t : TT} (h : t.WF) (a n : Int) (a0 : 0 ≤ a) (a1 : a < 4294967296) : (getA a n t = none ∧ atI a n t.rows = none) ∨ ∃ u i p, getA a n t = some u ∧ atI a n t.rows = some i ∧ t.rows[i]? = some (p, u) := by
  by_cases hr : rightB a n = true
  · obtain ⟨e1, e2, e3⟩ := ka_bs a0 a1 hr
    unfold getA
    rw [if_pos hr]
    have hat := atI_key (L := t.rows) (p := bs a n) e3
    rw [e1, e2] at hat
    rw [hat]
    cases hg : t.get (bs a n) with
    | none => exact .inl ⟨rfl, getR_none h hg⟩
    | some u =>
      obtain ⟨i, hi, hx⟩ := getR_some h hg
      exact .inr ⟨u, i, _, rfl, hi, hx⟩
  · left
    refine ⟨by unfold getA; rw [if_neg hr], ?_⟩
    unfold atI
    refine fi_none fun j _ x hx => ?_
    unfold isP
    rw [decide_eq_false_iff_not]
    rintro ⟨e1, e2⟩
    have := ka_right (h.lenR x (List.mem_of_getElem? hx))
    rw [e1, e2] at this
    exact hr this

def tpRel (w : World) (k m : Nat) (v3 v5 : Value) (wr : World) : Prop :=
  ∃ (i q : Nat) (t : TT) (g : Nat) (b : Option Addr) (c : Nat), m = k - i ∧ i ≤ k ∧ v3 = .pointer (some ⟨q, 0, none⟩) ∧ v5 = .int .i64 i ∧ PT w wr q t g (.slice b t.rows.length c) ∧ t.rows.length ≤ i

set_option maxRecDepth 100000 in
set_option maxHeartbeats 8000000 in
theorem TriePlays_any (w : World) (hR : RelsAt w) (base : Option Addr) (b o k c : Nat) (what a n val : Nat → Int) (h : ActsIn w base b o k what a n val) (hk : k ≤ 40) :
    Calls Tryd.prog 6 #[.slice base k c] w fun e w' => e = .returned (.bool true) ∧ Below w.heap.size w w' := by
  have t1 : decide ((40 : Int) < (k : Int)) = false := by simp; omega
  have HI := Lib.hid h
  have HPT0 := Lib.hid (PT.start w hR)
  clear h hR
  go_enter Tryd.func6, Tryd.ntmps6
  go_upto_region 4 with (first
    | (go_at_call 18; with_reducible refine (New_any _).mono ?_; rintro e w1 ⟨rfl, rfl⟩)
    | fail)
  have hPT := HPT0.out
  clear HPT0
  generalize ((w.alloc (.cells #[.pointer none, .int .i64 0, .bool true] 84)).alloc (.cells #[.slice none 0 0] 31)) = X0 at *
  have HPT := Lib.hid hPT
  clear hPT t1
  go_wp2_with fail
  go_loopg [3, 5] k (tpRel w k)
  case atStart => exact ⟨0, _, .nil, 0, none, 0, rfl, by omega, rfl, rfl, HPT.out, by simp [TT.rows]⟩
  case round =>
    clear HPT
    obtain ⟨i, q, t, g, sb, sc, hn, hik, rfl, rfl, hpt, hlen⟩ := hrel
    have Hn := Lib.hid hn
    have HPt := Lib.hid hpt
    clear hn hpt
    by_cases hlt : i < k
    · have hin := HI.out.below HPt.out.pw.tw.bl
      obtain rfl := hin.is (by omega)
      obtain ⟨a0, a1, a2, a3⟩ := hin.c i hlt
      have hB := hin.bd i
      obtain ⟨d0, d1⟩ := hB.a
      have hbl := HI.out.lt
      have HLc := Lib.hid (show ∀ W', Below w.heap.size w W' → W'.cell? ⟨b, o + i * 4 + 1, none⟩ = some (.int .u32 (a i)) ∧ W'.cell? ⟨b, o + i * 4 + 2, none⟩ = some (.int .i64 (n i)) from fun W' hb => ⟨cellL hb (HI.out.c i hlt).c1, cellL hb (HI.out.c i hlt).c2⟩)
      have HFz := Lib.hid (show ∀ W' j, Below w.heap.size w W' → j < w.heap.size → W'.heap[j]? = w.heap[j]? from fun W' j hb hj => hb.block j hj)
      generalize hwt : what i = wt' at *
      generalize hfc : a i = a' at *
      generalize hbd : n i = n' at *
      generalize hae : val i = x' at *
      clear hwt hfc hbd hae hB hin
      have HA := Lib.hid (act_any w q g t _ wt' a' n' x' wr.drew (HPt.out.pw.below (Below.refl _ _).drew) d0 d1 (by omega))
      have HA2 := Lib.hid (act_any w q g t _ wt' a' n' x' (wr.alloc (.cells #[.slice none 0 0] 31)).drew (HPt.out.pw.below ((Below.refl _ _).alloc (Nat.le_refl _) _).drew) d0 d1 (by omega))
      have c4 := HPt.out.b4.c
      have i1 : (0 : Int) ≤ (i : Int) := by omega
      have i2 : (i : Int) < (k : Int) := by omega
      have hwsz := HPt.out.pw.tw.bl.size
      have h4l := HPt.out.a4.lt
      have HNb := Lib.hid (show b ∉ q :: t.blocks from fun hm => by have := HPt.out.pw.tw.ge b hm; omega)
      go_upto_region 7 with fail
      go_cut [6, 7, 8] (R7 w wr q t g)
      case first => as_aux_lemma =>
        have x1 : wr.heap.size ≠ w.heap.size + 1 := by omega
        have x2 : w.heap.size + 1 ≠ wr.heap.size := by omega
        have x3 : wr.heap.size ≠ b := by omega
        have x4 : b ≠ wr.heap.size := by omega
        have x5 : b < wr.heap.size := by omega
        go_region_held3 (fun w' => w'.cell? ⟨b, o + i * 4, none⟩ = some (.int .i64 wt') ∧ w'.cell? ⟨b, o + i * 4 + 1, none⟩ = some (.int .u32 a') ∧ w'.cell? ⟨b, o + i * 4 + 2, none⟩ = some (.int .i64 n') ∧ w'.cell? ⟨b, o + i * 4 + 3, none⟩ = some (.int .i64 x') ∧ w'.cell? ⟨w.heap.size + 1, 0, none⟩ = some (.slice sb t.rows.length sc))
          (first | exact ⟨a0, a1, a2, a3, c4⟩ | exact ⟨(set_far (by omega)).trans a0, (set_far (by omega)).trans a1, (set_far (by omega)).trans a2, (set_far (by omega)).trans a3, (set_far (by omega)).trans c4⟩ | go_keep)
          (first
            | (((with_reducible refine HA.out.mono ?_)); rintro e w2 ⟨q', t', g', v', rfl, hA, hl2⟩; obtain ⟨b', c', rfl, _, _⟩ := hA.pw.rt.ex; have hA1 := hA.pre (w := wr) (Below.refl _ _).drew; have hbb := hA1.kb.block b x5 HNb.out; have h44 := hA1.kb.block _ h4l HPt.out.a4.nb; have hs2 := hA1.kb.size; have y5 : b < w2.heap.size := (by omega); have y6 : w.heap.size + 1 < w2.heap.size := (by omega); have a0 := (World.cell?_of_block (w := wr) (a := ⟨b, o + i * 4, none⟩) hbb).trans a0; have a1 := (World.cell?_of_block (w := wr) (a := ⟨b, o + i * 4 + 1, none⟩) hbb).trans a1; have a2 := (World.cell?_of_block (w := wr) (a := ⟨b, o + i * 4 + 2, none⟩) hbb).trans a2; have a3 := (World.cell?_of_block (w := wr) (a := ⟨b, o + i * 4 + 3, none⟩) hbb).trans a3; have c4 := (World.cell?_of_block (w := wr) (a := ⟨w.heap.size + 1, 0, none⟩) h44).trans c4; have HR7 := Lib.hid (R7.late hA hl2); clear hA hA1 hbb h44 hl2 hs2)
            | (((with_reducible refine HA2.out.mono ?_)); rintro e w2 ⟨q', t', g', v', rfl, hA, hl2⟩; obtain ⟨b', c', rfl, _, _⟩ := hA.pw.rt.ex; have hA1 := hA.pre (w := wr) ((Below.refl _ wr).alloc (Nat.le_refl _) _).drew; have hbb := hA1.kb.block b x5 HNb.out; have h44 := hA1.kb.block _ h4l HPt.out.a4.nb; have hX := hA.kb.block wr.heap.size (by show _ < (wr.alloc _).heap.size; simp) (fun hm => by
                rcases List.mem_cons.1 hm with e | hm
                · have := HPt.out.pw.tw.st.lt; omega
                · have := HPt.out.pw.tw.st.here.lt hm; omega); have hX1 : OneB w2 wr.heap.size (.slice none 0 0) 31 := hX.trans (OneB.new wr _ _); have e0 := hX1.c; have e1 := hX1.f; have a0 := (World.cell?_of_block (w := wr) (a := ⟨b, o + i * 4, none⟩) hbb).trans a0; have a1 := (World.cell?_of_block (w := wr) (a := ⟨b, o + i * 4 + 1, none⟩) hbb).trans a1; have a2 := (World.cell?_of_block (w := wr) (a := ⟨b, o + i * 4 + 2, none⟩) hbb).trans a2; have a3 := (World.cell?_of_block (w := wr) (a := ⟨b, o + i * 4 + 3, none⟩) hbb).trans a3; have c4 := (World.cell?_of_block (w := wr) (a := ⟨w.heap.size + 1, 0, none⟩) h44).trans c4; have HR7 := Lib.hid (R7.early HPt.out.pw hA hl2); clear hA hA1 hbb h44 hl2 hX hX1))
        all_goals
          clear a0 a1 a2 a3 c4
          go_wp2_with fail
          go_meet
          exact HR7.out
      case rest =>
        obtain ⟨q', t', g', X, b', c', rfl, rfl, rfl, hX, hXl, hA, hl2⟩ := hcut
        have HAc := Lib.hid hA
        have HX := Lib.hid hX
        have y0 := hX.c
        have h44 := hA.kb.block _ h4l HPt.out.a4.nb
        have hb4 : OneB wc (w.heap.size + 1) (.slice sb t.rows.length sc) 31 := h44.trans HPt.out.b4
        have e0 := hb4.c
        have f0 := hb4.f
        have hXB : w.heap.size + 1 ≠ X := by omega
        have HST := Lib.hid (HPt.out.act hA)
        clear hX hA h44 hb4 HA HA2 a0 a1 a2 a3 c4
        go_upto_region 8 with fail
        go_region_held3 (fun w' => w'.cell? ⟨X, 0, none⟩ = some (.slice b' t'.rows.length c'))
          (first | exact (set_far (fun e => hXB e.symm)).trans y0 | go_keep) (fail)
        all_goals
          clear y0 e0 f0
          have HW4 := Lib.hid (HST.out.below ((Below.refl _ _).drew))
          clear HST
          generalize (wc.setCell ⟨w.heap.size + 1, 0, none⟩ (.slice b' t'.rows.length c')).drew = W4 at *
          have hwf := HW4.out.pw.tw.st.wf
          obtain ⟨m1, m2⟩ := HLc.out _ HW4.out.pw.tw.bl
          have HGt := Lib.hid (getA_any w q' t' a' n' W4 HW4.out.pw.tw d0 d1)
          rcases getA_at hwf a' n' d0 d1 with ⟨hg, hi⟩ | ⟨u, j, p, hg, hi, hx⟩
          · have HG := HGt
            rw [hg] at HG
            simp only [getV] at HG
            have HAt := Lib.hid (show ∀ W, Below W4.heap.size W4 W → Calls Tryd.prog 29 #[.agg #[.slice b' t'.rows.length c'], .agg #[.int .u32 a', .int .i64 n']] W fun e w' => e = .returned (.int .i64 (-1 : Int)) ∧ Below W.heap.size W w' from fun W hb => by
              have h1 := rAt_any _ g' t'.rows a' n' W (HW4.out.pw.rt.below hb) (by omega)
              rw [hi] at h1
              exact h1)
            clear hg hi HGt
            go_upto_region 10 with (first
              | (go_at_call 20; with_reducible refine HG.out.mono ?_; rintro e w5 ⟨rfl, hb⟩; have HB5 := Lib.hid hb; clear hb m1 m2)
              | fail)
            obtain ⟨m1, m2⟩ := HLc.out _ (bthen HW4.out.pw.tw.bl HB5.out)
            have c4 := (HW4.out.below HB5.out).b4.c
            go_region_held3 (fun w' => w'.cell? ⟨b, o + i * 4 + 1, none⟩ = some (.int .u32 a') ∧ w'.cell? ⟨b, o + i * 4 + 2, none⟩ = some (.int .i64 n') ∧ w'.cell? ⟨w.heap.size + 1, 0, none⟩ = some (.slice b' t'.rows.length c'))
              (first | exact ⟨m1, m2, c4⟩ | go_keep)
              ((go_at_call 29; (with_reducible refine (HAt.out _ (HB5.out.drew)).mono ?_); rintro e w6 ⟨rfl, hb⟩; have HB6 := Lib.hid (bthen HB5.out.drew hb); clear hb m1 m2 c4; obtain ⟨m1, m2⟩ := HLc.out _ (bthen HW4.out.pw.tw.bl HB6.out); have c4 := (HW4.out.below HB6.out).b4.c))
            all_goals
              have HW6 := Lib.hid (HW4.out.below HB6.out)
              have HIs := Lib.hid (fun W (hb : Below w6.heap.size w6 W) => is_any q' g' t' _ W (HW6.out.below hb).pw.tw.st (HW6.out.below hb).pw.rt (by omega))
              clear m1 m2
              by_cases hi4 : i % 4 = 3
              · have t7 : ((i : Int) % 4 == 3) = true := by (simp; omega)
                go_wp2_with (first
                  | (go_at_call 30; with_reducible refine (HIs.out _ (Below.refl _ _)).mono ?_; rintro e w7 ⟨rfl, hb⟩; have HB7 := Lib.hid hb; clear hb)
                  | fail)
                go_roundg (k - (i + 1))
                case measure => have := Hn.out; omega
                case rel => exact ⟨i + 1, q', t', g', _, c', rfl, by omega, rfl, by go_num, HW6.out.below HB7.out, by omega⟩
              · have t7 : ((i : Int) % 4 == 3) = false := by (simp; omega)
                go_wp2_with fail
                go_roundg (k - (i + 1))
                case measure => have := Hn.out; omega
                case rel => exact ⟨i + 1, q', t', g', _, c', rfl, by omega, rfl, by go_num, HW6.out, by omega⟩
          · have HG := HGt
            rw [hg] at HG
            simp only [getV] at HG
            have HAt := Lib.hid (show ∀ W, Below W4.heap.size W4 W → Calls Tryd.prog 29 #[.agg #[.slice b' t'.rows.length c'], .agg #[.int .u32 a', .int .i64 n']] W fun e w' => e = .returned (.int .i64 (j : Int)) ∧ Below W.heap.size W w' from fun W hb => by
              have h1 := rAt_any _ g' t'.rows a' n' W (HW4.out.pw.rt.below hb) (by omega)
              rw [hi] at h1
              exact h1)
            have HX2 := Lib.hid hx
            have hjl : j < t'.rows.length := (List.getElem?_eq_some_iff.1 hx).1
            have j1 : (0 : Int) ≤ (j : Int) := by omega
            have j2 : (j : Int) < (t'.rows.length : Int) := by omega
            clear hx
            clear hg hi HGt
            go_upto_region 10 with (first
              | (go_at_call 20; with_reducible refine HG.out.mono ?_; rintro e w5 ⟨rfl, hb⟩; have HB5 := Lib.hid hb; clear hb m1 m2)
              | fail)
            obtain ⟨m1, m2⟩ := HLc.out _ (bthen HW4.out.pw.tw.bl HB5.out)
            have c4 := (HW4.out.below HB5.out).b4.c
            go_region_held3 (fun w' => w'.cell? ⟨b, o + i * 4 + 1, none⟩ = some (.int .u32 a') ∧ w'.cell? ⟨b, o + i * 4 + 2, none⟩ = some (.int .i64 n') ∧ w'.cell? ⟨w.heap.size + 1, 0, none⟩ = some (.slice b' t'.rows.length c'))
              (first | exact ⟨m1, m2, c4⟩ | go_keep)
              ((go_at_call 29; (with_reducible refine (HAt.out _ (HB5.out.drew)).mono ?_); rintro e w6 ⟨rfl, hb⟩; have HB6 := Lib.hid (bthen HB5.out.drew hb); clear hb m1 m2 c4; obtain ⟨m1, m2⟩ := HLc.out _ (bthen HW4.out.pw.tw.bl HB6.out); have c4 := (HW4.out.below HB6.out).b4.c))
            all_goals
              have HW6 := Lib.hid (HW4.out.below HB6.out)
              have HIs := Lib.hid (fun W (hb : Below w6.heap.size w6 W) => is_any q' g' t' _ W (HW6.out.below hb).pw.tw.st (HW6.out.below hb).pw.rt (by omega))
              clear m1 m2
              have hrt := HW6.out.pw.rt
              obtain ⟨bb, cc2, he, hrl, _⟩ := hrt.ex
              cases he
              obtain ⟨rfl, z0, z1, z2⟩ := hrl.row j _ HX2.out
              simp only [Nat.zero_add] at z0 z1 z2
              have HRl := Lib.hid hrl
              clear hrt hrl z0 z1
              by_cases hi4 : i % 4 = 3
              · have t7 : ((i : Int) % 4 == 3) = true := by (simp; omega)
                go_wp2_with (first
                  | (go_at_call 30; with_reducible refine (HIs.out _ (Below.refl _ _)).mono ?_; rintro e w7 ⟨rfl, hb⟩; have HB7 := Lib.hid hb; clear hb)
                  | fail)
                go_roundg (k - (i + 1))
                case measure => have := Hn.out; omega
                case rel => exact ⟨i + 1, q', t', g', _, c', rfl, by omega, rfl, by go_num, HW6.out.below HB7.out, by omega⟩
              · have t7 : ((i : Int) % 4 == 3) = false := by (simp; omega)
                go_wp2_with fail
                go_roundg (k - (i + 1))
                case measure => have := Hn.out; omega
                case rel => exact ⟨i + 1, q', t', g', _, c', rfl, by omega, rfl, by go_num, HW6.out, by omega⟩
    · obtain rfl : i = k := by omega
      have c4 := HPt.out.b4.c
      have HIs := Lib.hid (is_any q g t _ wr HPt.out.pw.tw.st HPt.out.pw.rt (by omega))
      go_wp2_with (first
        | (go_at_call 30; with_reducible refine HIs.out.mono ?_; rintro e w2 ⟨rfl, hb⟩; have HB := Lib.hid hb; clear hb c4)
        | (go_at_call 9; with_reducible refine (works_any _ (HPt.out.pw.tw.rel.below HB.out)).mono ?_; rintro e w3 ⟨rfl, hb⟩; have HB2 := Lib.hid hb; clear hb)
        | fail)
      go_ret
      exact ⟨rfl, bthen HPt.out.pw.tw.bl (bthen HB.out HB2.out)⟩
end Go.Proofs.YtbacahoihkpkpaaDoor
