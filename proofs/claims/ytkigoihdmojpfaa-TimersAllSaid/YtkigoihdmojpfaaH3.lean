/- TimersAll: the walk. (Printed by gen_h3.py.) -/
import Derived.Test.YtkigoihdmojpfaaG9
import Derived.RegionTactic
import Derived.StillTailTactics
import Derived.Deep.RegionWith
import Derived.Deep.CutBlock
namespace Go.Proofs.Ytkigoihdmojpfaa
open Go.RowKit Go.Shelf
open Go.Sort (grow)

attribute [local go_sem] Oper.semAt_some

def alRel (w : World) (B k m : Nat) (v7 v9 v10 : Value) (wr : World) : Prop :=
  ∃ (i q : Nat) (F : List Nat) (S : List TR) (g : Nat) (b : Option Addr) (c : Nat), m = k - i ∧ i ≤ k ∧ v7 = .pointer (some ⟨q, 0, none⟩) ∧ v9 = .bool true ∧ v10 = .int .i64 i ∧ PT w wr B q F S g b c ∧ S.length ≤ i

/-- all ways but the plain one are shut -/
def Nrm (Q : Exit → Act → World → Prop) : Exit → Act → World → Prop := fun e a w => match e with
  | .normal => Q .normal a w
  | _ => False
theorem nrm_intro {Q : Exit → Act → World → Prop} {a : Act} {w : World} (h : Q .normal a w) : Nrm Q .normal a w := h
theorem wp_nrm {P : Program} {c : Code} {Q : Exit → Act → World → Prop} {a : Act} {w : World} (h : c.wp P (Nrm Q) a w) : c.wp P Q a w :=
  Code.wp_mono (by
    intro e a w h
    cases e <;> first | exact h | exact h.elim) h
/-- a list behind a slice, its blocks kept -/
theorem SL.keepN {W W' : World} {base : Option Addr} {g N : Nat} {L : List TR} (h : SL W base g 0 L) (hg : base = none ∨ N ≤ g) (hs : W.heap.size ≤ W'.heap.size) (hk : ∀ i, N ≤ i → i < W.heap.size → W'.heap[i]? = W.heap[i]?) : SL W' base g 0 L := by
  rcases hg with rfl | hg
  · refine ⟨Nat.lt_of_lt_of_le h.lt hs, fun i r hr => ?_⟩
    obtain ⟨e, _⟩ := h.row i r hr
    cases e
  · exact h.of_block (hk g hg h.lt)

set_option maxRecDepth 1000000 in
set_option maxHeartbeats 16000000 in
theorem TimersAll_any (w : World) (base : Option Addr) (b o k c : Nat) (wt kd a n dd : Nat → Int) (h : ActsIn w base b o k wt kd a n dd) (hk : k ≤ 40) (many xt xk xa xn xd : Int) (hx : KBt xk xa xn) :
    Calls Try.prog 3 #[.slice base k c, .int .i64 many, .agg #[.int .i64 xt, .int .i64 xk, .int .u32 xa, .int .i64 xn, .int .i64 xd]] w fun e w' => e = .returned (.bool true) ∧ Below w.heap.size w w' := by
  have hnf : ∀ (b : Nat) (W : World), (binOp .eql 41 (.func (.func 34) #[] #[.pointer (some ⟨b, 0, none⟩)]) .nilFunc).run Try.prog W = .ok (.bool false) W := fun _ _ => by kernel_rfl
  have t1 : decide ((40 : Int) < (k : Int)) = false := by simp; omega
  have b1 : Below w.heap.size w ((w.alloc (.cells #[.int .i64 xt, .int .i64 xk, .int .u32 xa, .int .i64 xn, .int .i64 xd] 31)).alloc (.cells #[.bool false] 4)) := bthen (below1 _ _) (below1 _ _)
  have p0 : ((w.alloc (.cells #[.int .i64 xt, .int .i64 xk, .int .u32 xa, .int .i64 xn, .int .i64 xd] 31)).alloc (.cells #[.bool false] 4)).heap[w.heap.size]? = some (.cells #[.int .i64 xt, .int .i64 xk, .int .u32 xa, .int .i64 xn, .int .i64 xd] 31 (0, 0)) := (Below.heap_alloc _ _ _ (by simp)).trans (heap_alloc_new w _)
  have p1 : OneB ((w.alloc (.cells #[.int .i64 xt, .int .i64 xk, .int .u32 xa, .int .i64 xn, .int .i64 xd] 31)).alloc (.cells #[.bool false] 4)) (w.heap.size + 1) (.bool false) 4 := by
    have := OneB.new (w.alloc (.cells #[.int .i64 xt, .int .i64 xk, .int .u32 xa, .int .i64 xn, .int .i64 xd] 31)) (.bool false) 4
    rwa [World.size_alloc] at this
  have HI := Lib.hid (h.below b1)
  have HB1 := Lib.hid b1
  have HP0 := Lib.hid p0
  have HP1 := Lib.hid p1
  have HXk := Lib.hid hx
  clear b1 p0 p1 h hx
  refine (callsIn_wide (n := 3)).1 ?_
  refine callsIn_of_wp_marks Try.func3 rfl trivial ?_ rfl
  simp only [Try.ntmps3, List.size_toArray, List.length_cons, List.length_nil, Nat.reduceAdd, Nat.reduceSub, Array.replicate_succ, Array.replicate_zero, List.push_toArray, List.append_toArray, List.nil_append, List.cons_append]
  refine wpIn_wide.2 ?_
  go_upto_region 1 with fail
  generalize ((w.alloc (.cells #[.int .i64 xt, .int .i64 xk, .int .u32 xa, .int .i64 xn, .int .i64 xd] 31)).alloc (.cells #[.bool false] 4)) = X at *
  go_upto_region 4 with (first
    | (go_at_call 9; (with_reducible refine (New_o _).mono ?_); rintro e w1 ⟨q0, rfl, hq⟩; have HQ := Lib.hid hq; clear hq)
    | fail)
  obtain ⟨F0, hPT⟩ := PT.start HQ.out
  have HPT := Lib.hid hPT
  obtain ⟨B, hB⟩ : ∃ B, B = w1.heap.size := ⟨_, rfl⟩
  rw [← hB] at HPT ⊢
  clear hPT t1 HQ hB
  generalize (w1.alloc (.cells #[.slice none 0 0] 37)) = X0 at *
  go_upto_block 0 with fail
  go_cut [7, 9] from 10 to 40 (fun v7 v9 wx => ∃ (q : Nat) (F : List Nat) (S : List TR) (g : Nat) (sb : Option Addr) (sc : Nat), v7 = .pointer (some ⟨q, 0, none⟩) ∧ v9 = .bool true ∧ PT X wx B q F S g sb sc ∧ S.length ≤ k)
  case first => as_aux_lemma =>
    go_wp2_with fail
    go_loopg [7, 9, 10] k (alRel X B k)
    case atStart => exact ⟨0, q0, F0, [], B, none, 0, rfl, by omega, rfl, rfl, rfl, HPT.out, by simp⟩
    case round =>
      clear HPT
      obtain ⟨i, q, F, S, g, sb, sc, hn, hik, rfl, rfl, rfl, hpt, hlen⟩ := hrel
      have Hn := Lib.hid hn
      have HPt := Lib.hid hpt
      clear hn hpt
      by_cases hlt : i < k
      · have hin := HI.out.below HPt.out.pw.bl
        obtain rfl := hin.is (by omega)
        obtain ⟨a0, a1, a2, a3, a4⟩ := hin.c i hlt
        have hBd := hin.bd i
        have hKb := hBd.k
        have hbl := HI.out.lt (by omega)
        generalize hwt : wt i = wt' at *
        generalize hfk : kd i = k' at *
        generalize hfc : a i = a' at *
        generalize hbd : n i = n' at *
        generalize hae : dd i = x' at *
        have HKb := Lib.hid hKb
        clear hwt hfk hfc hbd hae hBd hin hKb
        have HPd := Lib.hid (HPt.out.below (Below.refl _ _).drew)
        have HA := Lib.hid (act_any X q g F S _ wt' k' a' n' x' wr.drew HPd.out.pw HKb.out (by omega))
        have c4 := HPt.out.b4.c
        have i1 : (0 : Int) ≤ (i : Int) := by omega
        have i2 : (i : Int) < (k : Int) := by omega
        go_upto_block 1 with fail
        go_cut [7, 9] from 30 to 40 (fun v7 v9 wx => ∃ (q' : Nat) (F' : List Nat) (S' : List TR) (g' : Nat) (b' : Option Addr) (c' : Nat), v7 = .pointer (some ⟨q', 0, none⟩) ∧ v9 = .bool true ∧ PT X wx B q' F' S' g' b' c' ∧ S'.length ≤ i + 1)
        case first => as_aux_lemma =>
          go_upto_region 8 with fail
          refine wp_nrm ?_
          go_region_with ((((with_reducible refine HA.out.mono ?_)); rintro e w2 ⟨q', F', S', g', v', rfl, hA, hl2⟩; obtain ⟨b', c', rfl, _, _⟩ := hA.pw.rt.ex; have hPT2 := HPd.out.act hA; have h6 : OneB w2 B (.slice sb S.length sc) 37 := (hA.kb.block B HPd.out.lt HPd.out.nb).trans HPd.out.b4; have e6 := h6.c; have f6 := h6.f; have HPT2 := Lib.hid hPT2; clear hA hPT2 h6))
          all_goals
            refine nrm_intro ?_
            clear a0 a1 a2 a3 a4 c4 e6 f6
            generalize (w2.setCell ⟨B, 0, none⟩ (.slice b' S'.length c')) = WF at *
            go_wp2_with fail
            go_meet
            exact ⟨q', F', S', g', b', c', rfl, rfl, HPT2.out, by omega⟩
        case rest =>
          obtain ⟨q', F', S', g', b', c', rfl, rfl, hst, hl2⟩ := hcut
          have HST := Lib.hid hst
          clear hst a0 a1 a2 a3 a4 c4
          go_wp2_with fail
          go_roundg (k - (i + 1))
          case measure => have := Hn.out; omega
          case rel => exact ⟨i + 1, q', F', S', g', b', c', rfl, by omega, rfl, rfl, by go_num, HST.out, hl2⟩
      · obtain rfl : i = k := by omega
        go_wp2_with fail
        go_meet
        exact ⟨q, F, S, g, sb, sc, rfl, rfl, HPt.out, by omega⟩
  case rest =>
    clear HPT HI
    obtain ⟨q, F, S, g, sb, sc, rfl, rfl, hpt, hlen⟩ := hcut
    have HPt := Lib.hid hpt
    have HLen := Lib.hid hlen
    clear hpt
    have hFl := fun i hm => And.intro (HPt.out.pw.qu.foot_lt i hm) (HPt.out.pw.ge i hm)
    have HQl := Lib.hid hFl
    clear hFl
    have hXs := HPt.out.pw.bl.size
    have hXl := HP1.out.lt
    have hXl0 := (Array.getElem?_eq_some_iff.1 HP0.out).1
    have hBg := HPt.out.ge
    have hBl := HPt.out.lt
    have c8 := HPt.out.b4.c
    have HAl := Lib.hid (All_any q F S wc HPt.out.pw.qu (by omega))
    obtain ⟨_, _, he, hsl, _⟩ := HPt.out.pw.rt.ex
    cases he
    have HRw := Lib.hid (fun W (hb : Below wc.heap.size wc W) => rowsL_any (.pointer (some ⟨q, 0, none⟩)) S sb g sc many W (by omega) (fun W' hb' => All_any q F S W' (HPt.out.pw.qu.below (bthen hb hb')) (by omega)) (hsl.below hb))
    clear hsl
    go_upto_region 10 with (first
      | (go_at_call 11; (with_reducible refine HAl.out.mono ?_); rintro e w3 ⟨v', rfl, hA⟩; obtain ⟨Bs, b3, g3, c3, rfl, hB3, hS3, hBl3, hg3, hb⟩ := hA; have HBs := Lib.hid hB3; have HS3 := Lib.hid hS3; have HBl3 := Lib.hid hBl3; have HG3 := Lib.hid hg3; have HB3 := Lib.hid hb; have hPt3 := HPt.out.below hb; have HPt3 := Lib.hid hPt3; clear c8; have c8 := hPt3.b4.c; clear hB3 hS3 hBl3 hg3 hb hPt3)
      | fail)
    go_upto_region 12 with (first
      | (go_at_call 12; (with_reducible refine (HRw.out _ HB3.out).mono ?_); rintro e w4 ⟨rfl, hb⟩; have HB4 := Lib.hid hb; have hPt4 := HPt3.out.below hb; have HPt4 := Lib.hid hPt4; clear c8; have c8 := hPt4.b4.c; clear hb hPt4)
      | fail)
    have u0 := (HPt4.out.pw.bl.block _ hXl0).trans HP0.out
    have d0 : w4.cell? ⟨w.heap.size, 0, none⟩ = some (.int .i64 xt) := by simp [World.cell?, u0]
    have d1 : w4.cell? ⟨w.heap.size, 1, none⟩ = some (.int .i64 xk) := by simp [World.cell?, u0]
    have d2 : w4.cell? ⟨w.heap.size, 2, none⟩ = some (.int .u32 xa) := by simp [World.cell?, u0]
    have d3 : w4.cell? ⟨w.heap.size, 3, none⟩ = some (.int .i64 xn) := by simp [World.cell?, u0]
    have d4 : w4.cell? ⟨w.heap.size, 4, none⟩ = some (.int .i64 xd) := by simp [World.cell?, u0]
    have HA := Lib.hid (act_any X q g F S _ xt xk xa xn xd w4 HPt4.out.pw HXk.out (by omega))
    clear u0
    go_upto_region 13 with (first
      | (go_at_call 10; (with_reducible refine HA.out.mono ?_); rintro e w5 ⟨q1, F1, S1, g1, v1, rfl, hA, hl1⟩; obtain ⟨sb1, sc1, rfl, _, _⟩ := hA.pw.rt.ex; have HA1 := Lib.hid hA; clear hA hl1 c8 d0 d1 d2 d3 d4)
      | fail)
    have hA1s := HA1.out.kb.size
    have h43 := HB4.out.size
    have h3c := HB3.out.size
    have hk5 : ∀ i, i < w4.heap.size → (i < X.heap.size ∨ wc.heap.size ≤ i ∨ i = B ∨ i = g) → w5.heap[i]? = w4.heap[i]? := fun i hi hc => HA1.out.kb.block i hi (fun hm => by
      have h5 := HQl.out i hm
      rcases hc with hc | hc | hc | hc
      · omega
      · omega
      · subst hc; exact HPt.out.nb hm
      · subst hc; exact HPt.out.pw.ap hm)
    have hbs3 := (Array.getElem?_eq_some_iff.1 HBs.out).1
    have s1 : w5.heap[Bs]? = some (.cells #[.slice b3 S.length c3] 72 (0, 0)) := (hk5 Bs (by omega) (.inr (.inl HBl3.out))).trans ((HB4.out.block Bs hbs3).trans HBs.out)
    have s2 : SL w5 b3 g3 0 S := (HS3.out.below HB4.out).keepN HG3.out hA1s (fun i h1 h2 => hk5 i h2 (.inr (.inl h1)))
    have s3 : RT w5 g (.agg #[.slice sb S.length sc]) S := HPt4.out.pw.rt.of_block (hk5 g HPt4.out.pw.rt.lt (.inr (.inr (.inr rfl))))
    have s4 : OneB w5 B (.slice sb S.length sc) 37 := (hk5 B HPt4.out.lt (.inr (.inr (.inl rfl)))).trans HPt4.out.b4
    have s5 : OneB w5 (w.heap.size + 1) (.bool false) 4 := (hk5 _ (by omega) (.inl hXl)).trans ((HPt4.out.pw.bl.block _ hXl).trans HP1.out)
    have HWp := Lib.hid (HA1.out.pw.bl)
    obtain ⟨bn, hbn⟩ : ∃ bn, bn = w5.heap.size := ⟨_, rfl⟩
    have HW : ∀ W0, W0 = w5.alloc (.cells #[.int .i64 0] 3) → (W0.heap[Bs]? = some (.cells #[.slice b3 S.length c3] 72 (0, 0)) ∧ SL W0 b3 g3 0 S ∧ RT W0 g (.agg #[.slice sb S.length sc]) S ∧ OneB W0 B (.slice sb S.length sc) 37 ∧ OneB W0 (w.heap.size + 1) (.bool false) 4) ∧ (OneB W0 bn (.int .i64 0) 3 ∧ W0.heap.size = bn + 1 ∧ Below w.heap.size w W0) := fun W0 e => by
      subst e
      have hb3 := below1 w5 (.cells #[.int .i64 0] 3)
      exact ⟨⟨(hb3.block _ (Array.getElem?_eq_some_iff.1 s1).1).trans s1, s2.below hb3, s3.below hb3, s4.below hb3, s5.below hb3⟩, by rw [hbn]; exact OneB.new w5 _ _, by simp [hbn], bthen HB1.out (bthen HWp.out hb3)⟩
    have hbnl : X.heap.size ≤ bn := by rw [hbn]; omega
    have hBn : B < bn := by rw [hbn]; exact s4.lt
    have hgn : g < bn := by rw [hbn]; exact s3.lt
    have hg3n : g3 < bn := by rw [hbn]; exact s2.lt
    have hBsn : Bs < bn := by rw [hbn]; exact (Array.getElem?_eq_some_iff.1 s1).1
    go_upto_region 14 with fail
    rw [← hbn]
    generalize w5.alloc (.cells #[.int .i64 0] 3) = W0 at *
    obtain ⟨⟨h1, h2, h3, h4, h5⟩, h7, hsz, HBB⟩ := HW W0 rfl
    have HB := Lib.hid HBB
    clear HW HBB s1 s2 s3 s4 s5 hbn HPt HPt3 HPt4 HA1 hk5 HQl HWp HBs HS3 HBl3 HG3 HB3 HB4 HAl HRw HA
    have hL : S.length < 1000000 := by have := HLen.out; omega
    have hL40 : S.length ≤ 40 := by have := HLen.out; omega
    obtain ⟨_, _, he, h3s, _⟩ := h3.ex
    cases he
    go_wp2_with fail
    clear HLen
    refine (wpIn_wide (n := 3)).1 ?_
    refine wpIn_rangeFunc_ownH rfl (by omega) (gf := 34) (lb := #[.pointer (some ⟨Bs, 0, none⟩)]) rfl trivial (enters_of Try.func34 (by kernel_rfl) rfl)
      (All_stops (3 - 1) Bs g3 c3 b3 S hL W0 h1 h2) kpA_t (kpA_b (by omega) h2.lt) (Below.refl _ _) (fun _ => rfl)
      (rI S.length 1000000 bn W0) (rX S.length 1000000 bn W0) (rI_own _ _ _ _) (rX_own _ _ _ _)
      ⟨⟨.inl rfl, h7⟩, ⟨rfl, rfl, rfl, Nat.le_refl _, fun _ _ _ => rfl⟩⟩
      (fun x a' W => ∃ Bx, (W0.heap.size ≤ Bx ∧ a' = { tmps := #[Value.slice base k c, Value.int IntKind.i64 many, Value.agg #[Value.int IntKind.i64 xt, Value.int IntKind.i64 xk, Value.int IntKind.u32 xa, Value.int IntKind.i64 xn, Value.int IntKind.i64 xd], undef, undef, Value.pointer (some { block := w.heap.size, off := 0 }), Value.pointer (some { block := w.heap.size + 1, off := 0 }), Value.pointer (some { block := q, off := 0 }), Value.pointer (some { block := B, off := 0 }), Value.bool true, u10, Value.func (Fn.func 34) #[] #[Value.pointer (some { block := Bs, off := 0 })], Value.pointer (some { block := bn, off := 0 }), Value.pointer (some { block := Bx, off := 0 }), .int .i64 (recAt S x).due, u15, u16, u17, u18, u19, u20, u21, u22, u23, u24, u25, u26, u27, u28, u29, u30, u31, u32, u33, u34, u35, u36, u37, u38, u39, u40, Value.pointer (some { block := q, off := 0 }), Value.func (Fn.func 34) #[] #[Value.pointer (some { block := Bs, off := 0 })], Value.func (Fn.func 34) #[] #[Value.pointer (some { block := Bs, off := 0 })], Value.bool false, Value.bool false, Value.pointer (some { block := q, off := 0 }), Value.agg #[Value.slice sb S.length sc], Value.int IntKind.i64 many, Value.bool true, Value.bool false, Value.bool false, Value.pointer (some { block := q, off := 0 }), Value.agg #[Value.slice sb S.length sc], Value.agg #[Value.int IntKind.i64 xt, Value.int IntKind.i64 xk, Value.int IntKind.u32 xa, Value.int IntKind.i64 xn, Value.int IntKind.i64 xd], Value.tuple #[Value.pointer (some { block := q1, off := 0 }), Value.agg #[Value.slice sb1 S1.length sc1], Value.bool true], Value.func (Fn.func 34) #[] #[Value.pointer (some { block := Bs, off := 0 })], .agg #[.int .i64 (recAt S x).kind, .int .u32 (recAt S x).addr, .int .i64 (recAt S x).len], .int .i64 (recAt S x).due, undef, undef, undef, undef, undef, undef, undef, undef, undef, undef, undef, undef, undef, undef, undef, undef, undef, undef, undef, undef, undef, undef, undef, undef, undef, undef, undef, undef, undef], defers := [] }) ∧ TBox W Bx (recAt S x).kind (recAt S x).addr (recAt S x).len)
      (fun x a' s X Y row hs hg hr => by obtain ⟨Bx, h1, h2⟩ := hs; exact ⟨Bx, h1, Own.from (tboxB_own (β := Unit) Bx (recAt S x)) _ s X Y row h2 hg hr⟩) ?assign ?body ?done ?stop
    case assign =>
      rintro l pre x W K hI hK
      obtain ⟨hI1, hI2⟩ := hI
      have hws := hI2.size
      unfold encA
      gi_wp2_with fail
      exact hK _ _ ((KeepsOthers.alloc _ _).from _) ⟨Below.heap_alloc _ _ Bs (by omega), Below.heap_alloc _ _ g3 (by omega)⟩ ⟨⟨hI1.1, hI1.2.alloc _⟩, grown_alloc hI2 _⟩ ⟨W.heap.size, ⟨hws, rfl⟩, heap_alloc_new W _⟩
    case body =>
      rintro l pre x a' W hl' ⟨r, hr⟩ ⟨⟨htn, hn⟩, hg⟩ ⟨Bx, ⟨hBx, rfl⟩, hRB⟩ hlt
      have x0 := hn.c
      have x1 := hn.f
      have y4 := (h4.grown hg (by omega)).c
      have y6 := (h5.grown hg (by omega)).c
      have y6f := (h5.grown hg (by omega)).f
      have q0 := hRB.c0
      have q1 := hRB.c1
      have q2 := hRB.c2
      have HG := Lib.hid hg
      have HN := Lib.hid hn
      clear hg hn htn hRB
      obtain ⟨rr, hrr⟩ : ∃ rr, S[pre.length]? = some rr := ⟨_, List.getElem?_eq_getElem hlt⟩
      obtain ⟨rfl, z0, z1, z2, z3⟩ := (h3s.grown HG.out (by omega)).row _ rr hrr
      simp only [Nat.zero_add] at z0 z1 z2 z3
      have t1 : decide (S.length ≤ pre.length) = false := by simp; omega
      have t2 : decide ((S.length : Int) ≤ (pre.length : Int)) = false := by simp; omega
      have i0 : (0 : Int) ≤ (pre.length : Int) := by omega
      have i1 : (pre.length : Int) < (S.length : Int) := by omega
      have HX0 := Lib.hid (show (recAt S x) ≠ rr → ∀ k, k ≤ S.length → pre ++ [x] ≠ upF S.length k from fun hne k hk h => hne (by
        have e1 := upF_last hk h
        have h1 := List.getElem?_eq_getElem x.2
        have h2 : S[x.1]? = some rr := by rw [e1]; exact hrr
        rw [h2] at h1
        exact (Option.some.inj h1).symm))
      have HSz2 := Lib.hid (show (pre ++ [x]).length = pre.length + 1 by simp)
      clear hrr
      revert q0 q1 q2 HX0
      generalize hyx : recAt S x = yx
      intro q0 q1 q2 HX0
      have HYx := Lib.hid hyx
      clear hyx
      obtain ⟨yk, ya, yn, yd⟩ := yx
      obtain ⟨zk, za, zn, zd⟩ := rr
      simp only at q0 q1 q2 z0 z1 z2 z3
      by_cases e1 : (⟨yk, ya, yn, yd⟩ : TR) = ⟨zk, za, zn, zd⟩
      · cases e1
        clear HX0
        have HN2 := Lib.hid (HN.out.set (.int .i64 ((pre.length : Int) + 1)))
        have HG2 := Lib.hid (grown_setR HG.out (.int .i64 ((pre.length : Int) + 1)))
        gi_wp2_with fail
        refine wpIn_quiet_round (by kernel_rfl) (by kernel_rfl) (by kernel_rfl) (fun ⟨_, _, h⟩ => h) ?_
        repeat (first | go_big_quiet_step (fail) | quiet_step (fail))
        refine wpQuiet_nil ?_
        rintro _ ⟨nq, rfl⟩
        gi_wp2_with fail
        all_goals
          refine ⟨((keeps_drewN _ _).trans (KeepsOthers.setCell _ _ _)).from _, ⟨?_, ?_⟩, ⟨⟨.inr (by rw [HSz2.out]; omega), by rw [HSz2.out]; exact HN2.out⟩, grown_setR (grown_drewN HG.out nq) _⟩⟩
          · exact Below.heap_setCell (W.drewN nq) _ _ Bs (by simp; omega)
          · exact Below.heap_setCell (W.drewN nq) _ _ g3 (by simp; omega)
      · have HX := Lib.hid (HX0.out e1)
        clear HX0
        by_cases e2 : yk = zk
        · subst e2
          by_cases e3 : ya = za
          · subst e3
            by_cases e5 : yn = zn
            · subst e5
              have e6 : ¬ yd = zd := fun h => e1 (by rw [h])
              clear e1
              have t6 : (zd == yd) = false := by simpa using Ne.symm e6
              have t7 : (yd == zd) = false := by simpa using e6
              clear e6
              gi_wp2_with fail
              refine wpIn_quiet_round (by kernel_rfl) (by kernel_rfl) (by kernel_rfl) (fun ⟨_, _, h⟩ => h) ?_
              repeat (first | go_big_quiet_step (fail) | quiet_step (fail))
              refine wpQuiet_nil ?_
              rintro _ ⟨nq, rfl⟩
              gi_wp2_with fail
              all_goals exact ⟨((keeps_drewN _ _).trans (KeepsOthers.setCell _ _ _)).from _, .inl ⟨rfl, HX.out⟩, .inl rfl⟩
            · clear e1
              have t6 : (zn == yn) = false := by simpa using Ne.symm e5
              have t7 : (yn == zn) = false := by simpa using e5
              clear e5
              gi_wp2_with fail
              refine wpIn_quiet_round (by kernel_rfl) (by kernel_rfl) (by kernel_rfl) (fun ⟨_, _, h⟩ => h) ?_
              repeat (first | go_big_quiet_step (fail) | quiet_step (fail))
              refine wpQuiet_nil ?_
              rintro _ ⟨nq, rfl⟩
              gi_wp2_with fail
              all_goals exact ⟨((keeps_drewN _ _).trans (KeepsOthers.setCell _ _ _)).from _, .inl ⟨rfl, HX.out⟩, .inl rfl⟩
          · clear e1
            have t6 : (za == ya) = false := by simpa using Ne.symm e3
            have t7 : (ya == za) = false := by simpa using e3
            clear e3
            gi_wp2_with fail
            refine wpIn_quiet_round (by kernel_rfl) (by kernel_rfl) (by kernel_rfl) (fun ⟨_, _, h⟩ => h) ?_
            repeat (first | go_big_quiet_step (fail) | quiet_step (fail))
            refine wpQuiet_nil ?_
            rintro _ ⟨nq, rfl⟩
            gi_wp2_with fail
            all_goals exact ⟨((keeps_drewN _ _).trans (KeepsOthers.setCell _ _ _)).from _, .inl ⟨rfl, HX.out⟩, .inl rfl⟩
        · clear e1
          have t6 : (zk == yk) = false := by simpa using Ne.symm e2
          have t7 : (yk == zk) = false := by simpa using e2
          clear e2
          gi_wp2_with fail
          refine wpIn_quiet_round (by kernel_rfl) (by kernel_rfl) (by kernel_rfl) (fun ⟨_, _, h⟩ => h) ?_
          repeat (first | go_big_quiet_step (fail) | quiet_step (fail))
          refine wpQuiet_nil ?_
          rintro _ ⟨nq, rfl⟩
          gi_wp2_with fail
          all_goals exact ⟨((keeps_drewN _ _).trans (KeepsOthers.setCell _ _ _)).from _, .inl ⟨rfl, HX.out⟩, .inl rfl⟩
    case done =>
      rintro D xs W hD rfl ⟨⟨htn, hn⟩, hg⟩ hK
      obtain ⟨pn, hpn⟩ : ∃ pn : Nat, pn = S.length := ⟨_, rfl⟩
      rw [upF_len (Nat.le_refl _), ← hpn] at htn hn
      have x0 := hn.c
      have y4 := (h4.grown hg (by omega)).c
      have o6 := h5.grown hg (by omega)
      have HPn := Lib.hid hpn
      clear htn hpn
      have BW := HB.out.grown hg (by omega) (fun k e => by cases e; omega)
      have t9 : ((pn : Int) == (S.length : Int)) = true := by have := HPn.out; simp; omega
      have t9' : (pn == S.length) = true := by have := HPn.out; simp; omega
      have HO6 := Lib.hid o6
      have HBW := Lib.hid BW
      clear o6 BW
      go_wp2_with ((go_at_call 8; (with_reducible refine (works_any _).mono ?_); rintro e w8 ⟨rfl, hb⟩; have HB8 := Lib.hid hb; have o8' := HO6.out.below hb; have y6 := o8'.c; have y6f := o8'.f; have HO8 := Lib.hid o8'; clear hb o8'))
      have hK8 := (HB8.out.block D (Array.getElem?_eq_some_iff.1 hK).1).trans hK
      have o7 := HO8.out.set (.bool true)
      have B2 := (HBW.out.trans (HB8.out.mono (by have := HBW.out.size; omega))).setCell (p := ⟨w.heap.size + 1, 0, none⟩) (by simp) (.bool true)
      have k1 := (KeepsOthers.setCell w8 ⟨w.heap.size + 1, 0, none⟩ (.bool true)).same D _ hK8 rfl
      generalize w8.setCell ⟨w.heap.size + 1, 0, none⟩ (.bool true) = V4 at *
      have o8 : OneB (V4.putObj D (.deferred none)) (w.heap.size + 1) (.bool true) 4 := (World.putObj_heap_other (by omega)).trans o7
      have B3 := B2.trans (belowK_b (w := w) (Nat.le_refl _) V4 D _ (.deferred none) (by omega) k1 rfl rfl)
      refine ⟨by simp, .inl ⟨_, _, rfl, run_takeDeferred k1, ?_⟩⟩
      have q0 := o8.c
      exact ⟨.bool true, by simp [results, Try.results3, go_sem, q0], rfl, B3⟩
    case stop =>
      rintro D c pre W hD ⟨k, hk, hkp⟩ ⟨h1, h2⟩ hK
      rcases h1 with ⟨rfl, h⟩ | ⟨rfl, hp, hm1, hm2⟩
      · exact absurd hkp (h k hk)
      · exfalso
        rw [hkp, upF_len hk] at hm1
        omega

set_option maxRecDepth 100000 in
set_option maxHeartbeats 4000000 in
theorem all_more (w : World) (base : Option Addr) (k c : Nat) (hk : 40 < k) (hm : k ≤ 9223372036854775807) (many xt xk xa xn xd : Int) :
    Calls Try.prog 3 #[.slice base k c, .int .i64 many, .agg #[.int .i64 xt, .int .i64 xk, .int .u32 xa, .int .i64 xn, .int .i64 xd]] w fun e w' => e = .returned (.bool true) ∧ Below w.heap.size w w' := by
  have t1 : decide ((40 : Int) < (k : Int)) = true := by simp; omega
  have HB1 := Lib.hid (show Below w.heap.size w ((w.alloc (.cells #[.int .i64 xt, .int .i64 xk, .int .u32 xa, .int .i64 xn, .int .i64 xd] 31)).alloc (.cells #[.bool false] 4)) from bthen (below1 _ _) (below1 _ _))
  have HP1 := Lib.hid (show OneB ((w.alloc (.cells #[.int .i64 xt, .int .i64 xk, .int .u32 xa, .int .i64 xn, .int .i64 xd] 31)).alloc (.cells #[.bool false] 4)) (w.heap.size + 1) (.bool false) 4 by
    have := OneB.new (w.alloc (.cells #[.int .i64 xt, .int .i64 xk, .int .u32 xa, .int .i64 xn, .int .i64 xd] 31)) (.bool false) 4
    rwa [World.size_alloc] at this)
  go_enter Try.func3, Try.ntmps3
  go_upto_region 1 with fail
  generalize ((w.alloc (.cells #[.int .i64 xt, .int .i64 xk, .int .u32 xa, .int .i64 xn, .int .i64 xd] 31)).alloc (.cells #[.bool false] 4)) = X at *
  go_wp2_with (go_at_call 8; (with_reducible refine (works_any _).mono ?_); rintro e w9 ⟨rfl, hb9⟩; have HB9 := Lib.hid hb9; have o9 := HP1.out.below hb9; have c9 := o9.c; have f9 := o9.f; have HO9 := Lib.hid o9; clear hb9 o9)
  have o7 := HO9.out.set (.bool true)
  have B2 := (bthen HB1.out HB9.out).setCell (p := ⟨w.heap.size + 1, 0, none⟩) (by simp) (.bool true)
  generalize w9.setCell ⟨w.heap.size + 1, 0, none⟩ (.bool true) = V at *
  have q0 := o7.c
  exact bodyPost_ret (v := .bool true) (by simp [results, Try.results3, go_sem, q0]) rfl ⟨rfl, B2⟩
theorem TimersAll_all (w : World) (base : Option Addr) (b o k c : Nat) (wt kd a n dd : Nat → Int) (h : ActsIn w base b o k wt kd a n dd) (hm : k ≤ 9223372036854775807) (many xt xk xa xn xd : Int) (hx : KBt xk xa xn) :
    Calls Try.prog 3 #[.slice base k c, .int .i64 many, .agg #[.int .i64 xt, .int .i64 xk, .int .u32 xa, .int .i64 xn, .int .i64 xd]] w fun e w' => e = .returned (.bool true) ∧ Below w.heap.size w w' := by
  by_cases h1 : 40 < k
  · exact all_more w base k c h1 hm many xt xk xa xn xd
  · exact TimersAll_any w base b o k c wt kd a n dd h (by omega) many xt xk xa xn xd hx
end Go.Proofs.Ytkigoihdmojpfaa
