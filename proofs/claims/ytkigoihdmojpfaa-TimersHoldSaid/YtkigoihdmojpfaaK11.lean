/- Queues: Pop; what is told of nil; all in one. -/
import Derived.Test.YtkigoihdmojpfaaK10
namespace Go.Proofs.Ytkigoihdmojpfaa
open Go.RowKit

def zeroT : Value := .tuple #[.agg #[.int .i64 0, .int .u32 0, .int .i64 0], .int .i64 0, .bool false]
set_option maxRecDepth 100000 in
set_option maxHeartbeats 8000000 in
theorem Pop_no (qv : Value) (k a n d : Int) (b : Bool) (now : Int) (w : World) (hN : ∀ W, Below w.heap.size w W → Calls Try.prog 26 #[qv] W fun e w' => e = .returned (.tuple #[.agg #[.int .i64 k, .int .u32 a, .int .i64 n], .int .i64 d, .bool b]) ∧ Below W.heap.size W w') (hc : b = false ∨ now < d) :
    Calls Try.prog 21 #[qv, .int .i64 now] w fun e w' => e = .returned zeroT ∧ Below w.heap.size w w' := by
  have HX : ∀ X, X = w.alloc (.cells #[.int .i64 0, .int .u32 0, .int .i64 0] 29) → TBox X w.heap.size 0 0 0 ∧ Below w.heap.size w X := by
    intro X e
    subst e
    exact ⟨TBox.new _ _ _ _, below1 _ _⟩
  have HN := Lib.hid hN
  clear hN
  go_enter Try.func21, Try.ntmps21
  go_upto_region 1 with fail
  generalize w.alloc (.cells #[.int .i64 0, .int .u32 0, .int .i64 0] 29) = X at *
  obtain ⟨hT, hB⟩ := HX X rfl
  have HT := Lib.hid hT
  have HB := Lib.hid hB
  clear HX hT hB
  go_upto_region 2 with (go_at_call 26; (with_reducible refine (HN.out _ HB.out).mono ?_); rintro e w2 ⟨rfl, hb⟩; have HB2 := Lib.hid hb; clear hb)
  have hT2 := HT.out.below HB2.out
  have HBY := Lib.hid (bthen HB.out HB2.out)
  have HTY := Lib.hid hT2
  have b0 := hT2.c0
  have b1 := hT2.c1
  have b2 := hT2.c2
  have f0 := hT2.f 0
  have f1 := hT2.f 1
  have f2 := hT2.f 2
  have HV : ∀ V, V = (((w2.setCell ⟨w.heap.size, 0, none⟩ (.int .i64 0)).setCell ⟨w.heap.size, 1, none⟩ (.int .u32 0)).setCell ⟨w.heap.size, 2, none⟩ (.int .i64 0)) → TBox V w.heap.size 0 0 0 ∧ Below w.heap.size w V := by
    intro V e
    subst e
    exact ⟨HTY.out.set 0 0 0, below_set3 HBY.out (Nat.le_refl _) _ _ _⟩
  have HVh := Lib.hid HV
  clear hT2 HV
  cases b with
  | false =>
    go_wp2_with fail
    have HV := HVh.out
    generalize (((w2.setCell ⟨w.heap.size, 0, none⟩ (.int .i64 0)).setCell ⟨w.heap.size, 1, none⟩ (.int .u32 0)).setCell ⟨w.heap.size, 2, none⟩ (.int .i64 0)) = V at *
    obtain ⟨hV, hVB⟩ := HV V rfl
    have v0 := hV.c0
    have v1 := hV.c1
    have v2 := hV.c2
    exact bodyPost_ret (v := .tuple #[.agg #[.int .i64 0, .int .u32 0, .int .i64 0], .int .i64 0, .bool false]) (by simp [results, Try.results21, go_sem, v0, v1, v2]) rfl ⟨rfl, hVB⟩
  | true =>
    have hd : now < d := by
      rcases hc with h | h
      · cases h
      · exact h
    have t1 : decide (now < d) = true := by simp [hd]
    clear hc hd
    go_wp2_with fail
    have HV := HVh.out
    generalize (((w2.setCell ⟨w.heap.size, 0, none⟩ (.int .i64 0)).setCell ⟨w.heap.size, 1, none⟩ (.int .u32 0)).setCell ⟨w.heap.size, 2, none⟩ (.int .i64 0)) = V at *
    obtain ⟨hV, hVB⟩ := HV V rfl
    have v0 := hV.c0
    have v1 := hV.c1
    have v2 := hV.c2
    exact bodyPost_ret (v := .tuple #[.agg #[.int .i64 0, .int .u32 0, .int .i64 0], .int .i64 0, .bool false]) (by simp [results, Try.results21, go_sem, v0, v1, v2]) rfl ⟨rfl, hVB⟩

/-- stores into a new block of one's own that no queue has -/
theorem Qu.setNew {W V : World} {q B : Nat} {F : List Nat} {S : List TR} (h : Qu W q F S) (hk : KB [B] W V) (hB : B ∉ F) : Qu V q F S := by
  obtain ⟨p, m, v, L, h1, h2, h3, rfl⟩ := h
  have hn : ∀ c ∈ q :: foot p m v, c ∉ [B] := fun c hc e => hB (by rw [← List.mem_singleton.1 e]; exact hc)
  refine ⟨p, m, v, L, ⟨(hk.block q h1.qlt (hn q (by simp))).trans h1.box, h1.hs.kept (hk.block p h1.hs.plt (hn p (by simp [foot]))) (hk.block m h1.hs.mlt (hn m (by simp [foot]))) (fun g hg => ?_), h1.hp⟩, h2, h3, rfl⟩
  obtain ⟨cur, hc⟩ := h1.hs.own hg
  exact hk.block g (Array.getElem?_eq_some_iff.1 hc).1 (hn g (by simp [foot, hg]))
theorem kb_set3 (W : World) (B : Nat) (x y z : Value) : KB [B] W (((W.setCell ⟨B, 0, none⟩ x).setCell ⟨B, 1, none⟩ y).setCell ⟨B, 2, none⟩ z) :=
  ((KB.setCell [B] W B 0 x (by simp)).trans (KB.setCell [B] _ B 1 y (by simp))).trans (KB.setCell [B] _ B 2 z (by simp))

set_option maxRecDepth 100000 in
set_option maxHeartbeats 8000000 in
theorem Pop_yes (q p m : Nat) (v : Value) (L S : List TR) (x : TR) (now : Int) (w : World) (h : QS w q p m v L) (hp : L.Perm (x :: S)) (hO : OrdS (x :: S)) (hd : ¬ now < x.due) (hl : L.length < 10000) :
    Calls Try.prog 21 #[.pointer (some ⟨q, 0, none⟩), .int .i64 now] w fun e w' => e = .returned (.tuple #[keyV x.kind x.addr x.len, .int .i64 x.due, .bool true]) ∧ QNew w w' q (q :: foot p m v) S := by
  have HX : ∀ X, X = w.alloc (.cells #[.int .i64 0, .int .u32 0, .int .i64 0] 29) → QS X q p m v L ∧ TBox X w.heap.size 0 0 0 ∧ Below w.heap.size w X := by
    intro X e
    subst e
    exact ⟨h.below (below1 _ _), TBox.new _ _ _ _, below1 _ _⟩
  have hx := top_of h.hp hp hO
  have hil := (List.getElem?_eq_some_iff.1 hx).1
  have Hx := Lib.hid hx
  have Hp := Lib.hid hp
  have HO := Lib.hid hO
  have H0 := Lib.hid h
  have t1 : decide (now < x.due) = false := by simpa using hd
  have hNF : Hid (w.heap.size ∉ foot p m v) := Lib.hid (fun hm => by have := h.hs.foot_lt _ hm; omega)
  clear h hx hp hO hd
  unfold keyV
  go_enter Try.func21, Try.ntmps21
  go_upto_region 1 with fail
  generalize w.alloc (.cells #[.int .i64 0, .int .u32 0, .int .i64 0] 29) = X at *
  obtain ⟨hQ, hT, hB⟩ := HX X rfl
  have HQ := Lib.hid hQ
  have HB := Lib.hid hB
  have HT := Lib.hid hT
  have HNx := Next_some q p m v L x X hQ Hx.out hl
  unfold keyV at HNx
  have HNh := Lib.hid HNx
  clear HX hQ hT hB HNx
  go_upto_region 4 with (go_at_call 26; (with_reducible refine HNh.out.mono ?_); rintro e w2 ⟨rfl, hb⟩; have HB2 := Lib.hid hb; clear hb)
  have hQ2 := HQ.out.below HB2.out
  have e0 := hQ2.c
  have HPp := Lib.hid (hPop_any p m v L x (L.length - 1) w2 hQ2.hs Hx.out (by omega) (by omega) hQ2.hp)
  have HT2 := Lib.hid (HT.out.below HB2.out)
  have HQ2 := Lib.hid hQ2
  have hta := tAssert x.kind x.addr x.len x.due
  clear hQ2
  go_upto_region 5 with (go_at_call 42; (with_reducible refine HPp.out.mono ?_); rintro e w4 hh; obtain ⟨he, hh⟩ := hh; unfold rowV at he; subst he; have HH := Lib.hid hh; clear hh)
  have hk4 : KB (foot p m v) w2 w4 := by obtain ⟨_, _, _, _, _, _, h5⟩ := HH.out; exact h5
  have HK4 := Lib.hid hk4
  have HY : ∀ Y, Y = w4.alloc (.cells #[.int .i64 x.kind, .int .u32 x.addr, .int .i64 x.len, .int .i64 x.due] 85) → TBox Y w.heap.size 0 0 0 ∧ RBox Y w4.heap.size x ∧ Below w4.heap.size w4 Y := by
    intro Y e
    subst e
    exact ⟨(HT2.out.kb HK4.out hNF.out).below (below1 _ _), RBox.new _ _, below1 _ _⟩
  have hsz : w.heap.size < w4.heap.size := Nat.lt_of_lt_of_le HT2.out.lt hk4.size
  generalize w4.alloc (.cells #[.int .i64 x.kind, .int .u32 x.addr, .int .i64 x.len, .int .i64 x.due] 85) = Y at *
  obtain ⟨hT, hR, hBY⟩ := HY Y rfl
  have HTY := Lib.hid hT
  have HBY := Lib.hid hBY
  clear e0 HY hk4 hta
  have b0 := hT.c0
  have b1 := hT.c1
  have b2 := hT.c2
  have f0 := hT.f 0
  have f1 := hT.f 1
  have f2 := hT.f 2
  have y0 := hR.c0
  have y1 := hR.c1
  have y2 := hR.c2
  have y3 := hR.c3
  have hne : w.heap.size ≠ w4.heap.size := by omega
  clear hT hR hBY
  go_region
  all_goals go_wp2_with fail
  all_goals
    have HV : ∀ V, V = (((Y.setCell ⟨w.heap.size, 0, none⟩ (.int .i64 x.kind)).setCell ⟨w.heap.size, 1, none⟩ (.int .u32 x.addr)).setCell ⟨w.heap.size, 2, none⟩ (.int .i64 x.len)).drew → TBox V w.heap.size x.kind x.addr x.len ∧ QNew w V q (q :: foot p m v) S := by
      intro V e
      subst e
      refine ⟨(HTY.out.set x.kind x.addr x.len).below (Below.refl _ _).drew, ?_⟩
      obtain ⟨F', g1, g2, g3⟩ := (QNew.of_heaped HQ2.out (KB.refl _ _) HH.out (tail_of Hx.out Hp.out) (List.pairwise_cons.1 HO.out).2).post HBY.out
      have hw2 := HT2.out.lt
      have hBF : w.heap.size ∉ F' := fun hm => by
        rcases g2 _ hm with h | h
        · rcases List.mem_cons.1 h with e | h
          · have := H0.out.qlt; omega
          · exact hNF.out h
        · omega
      have ks := kb_set3 Y w.heap.size (.int .i64 x.kind) (.int .u32 x.addr) (.int .i64 x.len)
      have kw : KB (q :: foot p m v) w Y := (KB.of_below (bthen HB.out HB2.out)).trans g3
      exact ⟨F', (g1.setNew ks hBF).below (Below.refl _ _).drew, fun c hc => (g2 c hc).imp id (fun h => by omega), (kw.trans' ks (fun c hc => .inr (by rw [List.mem_singleton.1 hc]; exact Nat.le_refl _))).drew⟩
    generalize (((Y.setCell ⟨w.heap.size, 0, none⟩ (.int .i64 x.kind)).setCell ⟨w.heap.size, 1, none⟩ (.int .u32 x.addr)).setCell ⟨w.heap.size, 2, none⟩ (.int .i64 x.len)).drew = V at *
    obtain ⟨hV, hVB⟩ := HV V rfl
    have v0 := hV.c0
    have v1 := hV.c1
    have v2 := hV.c2
    exact bodyPost_ret (v := .tuple #[.agg #[.int .i64 x.kind, .int .u32 x.addr, .int .i64 x.len], .int .i64 x.due, .bool true]) (by simp [results, Try.results21, go_sem, v0, v1, v2]) rfl ⟨rfl, hVB⟩
end Go.Proofs.Ytkigoihdmojpfaa
