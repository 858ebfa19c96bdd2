/- The rows object: Pop, Push. -/
import Derived.Test.YtkigoihdmojpfaaU0
import Derived.Deep.RegionLaw
namespace Go.Proofs.Ytkigoihdmojpfaa
open Go.RowKit

set_option maxRecDepth 100000 in
set_option maxHeartbeats 8000000 in
theorem rPop_any (p m : Nat) (v : Value) (L : List TR) (x : TR) (w : World) (h : HS w p m v (L ++ [x])) (hl : L.length < 1000000) :
    Calls Try.prog 105 #[.pointer (some ⟨p, 0, none⟩)] w fun e w' => e = .returned (.iface 85 (rowV x)) ∧ ∃ v', HS w' p m v' L ∧ v'.ownBlock = v.ownBlock ∧ KB (foot p m v) w w' := by
  have c0 := h.c0
  have c1 := h.c1
  have f0 := h.f 0
  have hpm := h.pm
  obtain ⟨D, ho, ht⟩ := h.map
  have hx : (L ++ [x])[L.length]? = some x := by simp
  rcases h.row.2 with ⟨_, h0⟩ | ⟨g, cap, cur, rfl, hb0, hg, r1, r2, r3, r4⟩
  · simp at h0
  obtain ⟨y0, y1, y2, y3⟩ := own_cells h.row rfl hx
  have hpg := h.pg (g := g) rfl
  have hmg := h.mg (g := g) rfl
  have hlen : (L ++ [x]).length = L.length + 1 := by simp
  rw [hlen] at r1 r4 ho c0 ⊢
  have hplt := h.plt
  have hmlt := h.mlt
  have HH := Lib.hid h
  have HR := Lib.hid hg
  have HR4 := Lib.hid r4
  have HR3 := Lib.hid r3
  have HMap := Lib.hid ho
  have HTab := Lib.hid ht
  have hwx := h.wf x (by simp)
  have Hwx := Lib.hid hwx
  clear h hx hg ht
  obtain ⟨xk, xa, xn, xd⟩ := x
  simp only at y0 y1 y2 y3
  clear hlen
  unfold rowV
  go_enter Try.func105, Try.ntmps105
  go_upto_region 4 with fail
  have HX : ∀ X, X = (w.setCell ⟨p, 0, none⟩ (.slice (some ⟨g, 0, none⟩) L.length cap)).alloc (.cells #[.int .i64 xk, .int .u32 xa, .int .i64 xn, .int .i64 xd] 85) →
      (X.heap[p]? = some (.cells #[.slice (some ⟨g, 0, none⟩) L.length cap, .map (some m)] 74 (0, 0)) ∧ X.heap[g]? = some (.cells cur 85 (0, 0)) ∧ X.ownsMap Try.prog 29 (plainElem (H := Unit) Try.prog 3) m (L.length + 1) D) ∧ (KB [p] w X ∧ RBox X w.heap.size ⟨xk, xa, xn, xd⟩) := by
    intro X e
    subst e
    have hgl : g < w.heap.size := (Array.getElem?_eq_some_iff.1 HR.out).1
    have b1 := heap_setCell_same w p 0 _ 74 (.slice (some ⟨g, 0, none⟩) L.length cap) HH.out.box
    have k1 := KB.setCell [p] w p 0 (.slice (some ⟨g, 0, none⟩) L.length cap) (by simp)
    have hs : (w.setCell ⟨p, 0, none⟩ (.slice (some ⟨g, 0, none⟩) L.length cap)).heap.size = w.heap.size := by simp
    generalize w.setCell ⟨p, 0, none⟩ (.slice (some ⟨g, 0, none⟩) L.length cap) = Y at *
    have hb : Below Y.heap.size Y (Y.alloc (.cells #[.int .i64 xk, .int .u32 xa, .int .i64 xn, .int .i64 xd] 85)) := (Below.refl _ Y).alloc (Nat.le_refl _) _
    have k2 := k1.trans (KB.of_below hb)
    refine ⟨⟨(hb.block p (by omega)).trans (by simpa using b1), (k2.block g hgl (by simpa using Ne.symm hpg)).trans HR.out, ?_⟩, k2, ?_⟩
    · exact HMap.out.kept (row := some p) ⟨k2.os, k2.tape, k2.output, k2.size, fun k hk hne => k2.block k hk (by simpa using fun e => hne (by rw [e]))⟩ (fun e => hpm (Option.some.inj e).symm)
    · have := RBox.new Y ⟨xk, xa, xn, xd⟩
      rw [hs] at this
      exact this
  generalize (w.setCell ⟨p, 0, none⟩ (.slice (some ⟨g, 0, none⟩) L.length cap)).alloc (.cells #[.int .i64 xk, .int .u32 xa, .int .i64 xn, .int .i64 xd] 85) = X at *
  obtain ⟨⟨hXp, hXg, hXm⟩, hXk, hXr⟩ := HX X rfl
  clear HX
  obtain ⟨X1, ud, hM1, hT1⟩ := World.ownsMap.drop (w := X.drew) hXm keyed29 Try.underlying71 Hwx.out.kb.of 0
  have gx := hT1.grown
  have hwl := hXk.size
  have hrl := hXr.lt
  have k1 : KB [p, m] w X1 := (hXk.drew.sub (S' := [p, m]) (fun c hc => .inl (by simp at hc; simp [hc]))).trans (KB.of_grown gx (fun k e => by rw [← Option.some.inj e]; simp))
  have hp1 : X1.heap[p]? = _ := (gx.block p (show p < X.heap.size by omega) (fun e => hpm (Option.some.inj e))).trans hXp
  have hg1 : X1.heap[g]? = _ := (gx.block g (show g < X.heap.size from (Array.getElem?_eq_some_iff.1 hXg).1) (fun e => hmg (Option.some.inj e).symm)).trans hXg
  have hr1 : RBox X1 w.heap.size ⟨xk, xa, xn, xd⟩ := (gx.block w.heap.size (show _ < X.heap.size from hrl) (fun e => by have := Option.some.inj e; omega)).trans hXr
  have HFin : Hid (∃ v', HS X1 p m v' L ∧ v'.ownBlock = some g ∧ KB (foot p m (.slice (some ⟨g, 0, none⟩) (L.length + 1) cap)) w X1) := Lib.hid (by
    refine ⟨.slice (some ⟨g, 0, none⟩) L.length cap, HS.of hp1 ⟨tCs_len L, .inr ⟨g, cap, cur, rfl, Nat.zero_le _, hg1, by omega, r2, HR3.out, ?_⟩⟩ hM1 (Tab.pop HTab.out (fun _ => Iff.rfl) HH.out.apk trivial) (fun r hr => HH.out.wf r (by simp [hr])) (List.pairwise_append.1 HH.out.ap).1, rfl, k1.sub (fun c hc => .inl (by simp at hc; simp [foot]; omega))⟩
    have e1 := tCs_take (L ++ [⟨xk, xa, xn, xd⟩]) L.length
    rw [List.take_left, ← HR4.out, List.take_take, show min (L.length * 4) ((L.length + 1) * 4) = L.length * 4 by omega] at e1
    exact e1)
  have d1 : X.cell? ⟨p, 1, none⟩ = some (.map (some m)) := by simp [World.cell?, hXp]
  have q0 := hXr.c0
  have q1 := hXr.c1
  have q2 := hXr.c2
  have e1 : X1.cell? ⟨p, 1, none⟩ = some (.map (some m)) := by simp [World.cell?, hp1]
  have s0 := hr1.c0
  have s1 := hr1.c1
  have s2 := hr1.c2
  have s3 := hr1.c3
  simp only [keyV] at ud
  simp only at q0 q1 q2 s0 s1 s2 s3
  clear c0 c1 f0 y0 y1 y2 y3 hXp hXg hXm hXk hXr hM1 hT1 gx k1 hp1 hg1 hr1
  go_region_held3 (fun w' => w'.cell? ⟨p, 1, none⟩ = some (.map (some m)) ∧ w'.cell? ⟨w.heap.size, 0, none⟩ = some (.int .i64 xk) ∧ w'.cell? ⟨w.heap.size, 1, none⟩ = some (.int .u32 xa) ∧ w'.cell? ⟨w.heap.size, 2, none⟩ = some (.int .i64 xn))
    (first | exact ⟨e1, s0, s1, s2⟩ | go_keep)
    (fail)
  go_wp2_with fail
  go_ret
  exact ⟨rfl, HFin.out⟩
theorem push_end {w X1 Y w9 : World} {p m g3 c3 : Nat} {v : Value} {L : List TR} {x : TR} {D : DataW Unit} (H : HS w p m v L) (hp1 : X1.heap[p]? = some (.cells #[v, .map (some m)] 74 (0, 0))) (hk1 : KB [m] w X1)
    (hm1 : X1.ownsMap Try.prog 29 (plainElem (H := Unit) Try.prog 3) m (L.length + 1) D) (htab : Tab (kfp klT) plD D (idx (L ++ [x]))) (hb : Below X1.heap.size X1 Y)
    (ho : w9.ownsRow 0 85 4 (.slice (some ⟨g3, 0, none⟩) (L.length + 1) c3) (L.length + 1) (tCs L ++ tC x)) (hg : Y.grownBy w9 v.ownBlock) (hat : v.ownBlock = some g3 ∨ g3 = Y.heap.size) (hx : x.Wf) (hn : ∀ r ∈ L, ¬ (r.kind = x.kind ∧ r.addr = x.addr ∧ r.len = x.len)) :
    ∃ v', HS (w9.setCell ⟨p, 0, none⟩ (.slice (some ⟨g3, 0, none⟩) (L.length + 1) c3)) p m v' (L ++ [x]) ∧ (v'.ownBlock = v.ownBlock ∨ ∃ g, v'.ownBlock = some g ∧ w.heap.size ≤ g) ∧ KB (foot p m v) w (w9.setCell ⟨p, 0, none⟩ (.slice (some ⟨g3, 0, none⟩) (L.length + 1) c3)) := by
  have hpl : p < X1.heap.size := (Array.getElem?_eq_some_iff.1 hp1).1
  have hml : m < X1.heap.size := hm1.lt
  have hpY : p < Y.heap.size := Nat.lt_of_lt_of_le hpl hb.size
  have hpo : v.ownBlock ≠ some p := fun e => H.pg e rfl
  have hmo : v.ownBlock ≠ some m := fun e => H.mg e rfl
  have h9 : w9.heap[p]? = some (.cells #[v, .map (some m)] 74 (0, 0)) := ((hg.block p hpY (fun e => hpo e.symm)).trans (hb.block p hpl)).trans hp1
  have hbox := heap_setCell_same w9 p 0 _ 74 (.slice (some ⟨g3, 0, none⟩) (L.length + 1) c3) h9
  have hpg : p ≠ g3 := by
    rcases hat with h | h
    · exact H.pg h
    · omega
  have hk : KB [p] w9 (w9.setCell ⟨p, 0, none⟩ (.slice (some ⟨g3, 0, none⟩) (L.length + 1) c3)) := KB.setCell [p] w9 p 0 _ (by simp)
  generalize w9.setCell ⟨p, 0, none⟩ (.slice (some ⟨g3, 0, none⟩) (L.length + 1) c3) = F at *
  have gF : w9.grownBy F (some p) := ⟨hk.os, hk.tape, hk.output, hk.size, fun k hk' hne => hk.block k hk' (by simpa using fun e => hne (by rw [e]))⟩
  have hr : F.ownsRow 0 85 4 (.slice (some ⟨g3, 0, none⟩) (L.length + 1) c3) (L.length + 1) (tCs L ++ tC x) := ho.kept gF (.inr (by simp [Value.ownBlock]; exact hpg.symm))
  have hm : F.ownsMap Try.prog 29 (plainElem (H := Unit) Try.prog 3) m (L.length + 1) D :=
    ((hm1.kept (row := none) ⟨hb.os, hb.tape, hb.output, hb.size, fun k hk _ => hb.block k hk⟩ (by simp)).kept hg (fun e => hmo e.symm)).kept gF (fun e => H.pm (Option.some.inj e).symm)
  have hkk : KB (foot p m v) w F := by
    refine ((hk1.sub (S' := foot p m v) (fun c hc => .inl (by simp at hc; simp [foot, hc]))).trans (KB.of_below hb)).trans ((KB.of_grown hg (fun k e => by simp [foot, e])).trans (hk.sub (fun c hc => .inl (by simp at hc; simp [foot, hc]))))
  refine ⟨.slice (some ⟨g3, 0, none⟩) (L.length + 1) c3, HS.of (by simpa using hbox) ?_ hm htab ?_ ?_, ?_, hkk⟩
  · rw [List.length_append, tCs_append]
    have e : tCs [x] = tC x := by simp [tCs]
    rw [e]
    exact hr
  · intro r hr'
    rcases List.mem_append.1 hr' with h | h
    · exact H.wf r h
    · rw [List.mem_singleton.1 h]; exact hx
  · refine List.pairwise_append.2 ⟨H.ap, List.pairwise_singleton _ _, fun a ha b hb' => ?_⟩
    rw [List.mem_singleton.1 hb']
    exact hn a ha
  · rcases hat with h | h
    · exact .inl h.symm
    · refine .inr ⟨g3, rfl, ?_⟩
      have := hk1.size
      have := hb.size
      omega
theorem info85 : (Try.prog.info? 85).map (fun i => (i.zero, i.size, i.bytes)) = some (some (.agg #[.int .i64 0, .int .u32 0, .int .i64 0, .int .i64 0]), 4, 32) := by kernel_rfl
theorem tAssert (k a n d : Int) (w : World) : (Instr.typeAssert (.iface 85 (.agg #[.int .i64 k, .int .u32 a, .int .i64 n, .int .i64 d])) 20 85 false).run Try.prog w = .ok (.agg #[.int .i64 k, .int .u32 a, .int .i64 n, .int .i64 d]) w := by kernel_rfl

set_option maxRecDepth 100000 in
set_option maxHeartbeats 8000000 in
theorem rPush_any (p m : Nat) (v : Value) (L : List TR) (x : TR) (w : World) (h : HS w p m v L) (hx : x.Wf) (hn : ∀ r ∈ L, ¬ (r.kind = x.kind ∧ r.addr = x.addr ∧ r.len = x.len)) (hl : L.length < 1000000) :
    Calls Try.prog 106 #[.pointer (some ⟨p, 0, none⟩), .iface 85 (rowV x)] w fun e w' => e = .returned (.tuple #[]) ∧ ∃ v', HS w' p m v' (L ++ [x]) ∧ (v'.ownBlock = v.ownBlock ∨ ∃ g, v'.ownBlock = some g ∧ w.heap.size ≤ g) ∧ KB (foot p m v) w w' := by
  obtain ⟨base, g, cap, rfl, r1, r2, hS, hb, hO, hN⟩ := h.sl
  obtain ⟨D, ho, ht⟩ := h.map
  have hplt := h.plt
  have hmlt := h.mlt
  have hpm := h.pm
  have Hx := Lib.hid hx
  have HH := Lib.hid h
  have HTab := Lib.hid ht
  have HNn := Lib.hid hn
  obtain ⟨xk, xa, xn, xd⟩ := x
  have HX : ∀ X, X = w.alloc (.cells #[.int .i64 xk, .int .u32 xa, .int .i64 xn, .int .i64 xd] 85) → HS X p m (.slice base L.length cap) L ∧ X.ownsMap Try.prog 29 (plainElem (H := Unit) Try.prog 3) m L.length D ∧ RBox X w.heap.size ⟨xk, xa, xn, xd⟩ ∧ Below w.heap.size w X := by
    intro X e
    subst e
    exact ⟨HH.out.below ((Below.refl _ w).alloc (Nat.le_refl _) _), ho.alloc _, RBox.new w ⟨xk, xa, xn, xd⟩, (Below.refl _ w).alloc (Nat.le_refl _) _⟩
  clear h ht hn hx ho hS
  unfold rowV
  have hta := tAssert xk xa xn xd
  go_enter Try.func106, Try.ntmps106
  go_upto_region 1 with fail
  generalize w.alloc (.cells #[.int .i64 xk, .int .u32 xa, .int .i64 xn, .int .i64 xd] 85) = X at *
  obtain ⟨hXh, hXm, hXr, hXb⟩ := HX X rfl
  clear HX
  have c0 := hXh.c0
  have c1 := hXh.c1
  have q0 := hXr.c0
  have q1 := hXr.c1
  have q2 := hXr.c2
  have hxs := hXb.size
  have hrl := hXr.lt
  obtain ⟨X1, ux, hM1, gx⟩ := World.ownsMap.update (w := X.drew) hXm keyed29 Try.underlying71 (by unfold maxLen; omega) Hx.out.kb.of (plainElem_int (H := Unit) Try.underlying3 (a := (L.length : Int)) (by exact WalkArith.wf_i64 ⟨by omega, by omega⟩))
  have hp1 : X1.heap[p]? = _ := (gx.block p (show p < X.heap.size by omega) (fun e => hpm (Option.some.inj e))).trans hXh.box
  have hrm : w.heap.size ≠ m := by omega
  have hr1 : RBox X1 w.heap.size ⟨xk, xa, xn, xd⟩ := (gx.block w.heap.size (show _ < X.heap.size from hrl) (fun e => hrm (Option.some.inj e))).trans hXr
  have hR1 : X1.ownsRow 0 85 4 (.slice base L.length cap) L.length (tCs L) := World.ownsRow.kept (w := X.drew) hXh.row gx (.inr (fun e => hXh.mg e rfl))
  have hK1 : KB [m] w X1 := (KB.of_below hXb).drew.trans (KB.of_grown (S := [m]) gx (fun k e => by rw [← Option.some.inj e]; simp))
  have e0 : X1.cell? ⟨p, 0, none⟩ = some (.slice base L.length cap) := by simp [World.cell?, hp1]
  have e1 : X1.cell? ⟨p, 1, none⟩ = some (.map (some m)) := by simp [World.cell?, hp1]
  have fz : X1.frozen? ⟨p, 0, none⟩ = false := by simp [World.frozen?, hp1]
  have s0 := hr1.c0
  have s1 := hr1.c1
  have s2 := hr1.c2
  have s3 := hr1.c3
  simp only [keyV] at ux
  simp only at q0 q1 q2 s0 s1 s2 s3
  have HR1 := Lib.hid hR1
  have HK1 := Lib.hid hK1
  have HM1 := Lib.hid hM1
  have HP1 := Lib.hid hp1
  have hp1s : p < X1.heap.size := by have := gx.size; have : X.heap.size ≤ X1.heap.size := this; omega
  have hsz1 : X.heap.size ≤ X1.heap.size := gx.size
  have hmm1 : m < X1.heap.size := by omega
  have hOg : ∀ k, (Value.slice base L.length cap).ownBlock = some k → p ≠ k ∧ m ≠ k := fun k e => ⟨HH.out.pg e, HH.out.mg e⟩
  have HOg := Lib.hid hOg
  clear hXh hXm hXr hXb hM1 gx hp1 hr1 hR1 hK1 hOg
  go_region_held3 (fun w' => w'.cell? ⟨p, 0, none⟩ = some (.slice base L.length cap) ∧ w'.cell? ⟨p, 1, none⟩ = some (.map (some m)) ∧ w'.cell? ⟨w.heap.size, 0, none⟩ = some (.int .i64 xk) ∧ w'.cell? ⟨w.heap.size, 1, none⟩ = some (.int .u32 xa) ∧ w'.cell? ⟨w.heap.size, 2, none⟩ = some (.int .i64 xn))
    (first | exact ⟨e0, e1, s0, s1, s2⟩ | go_keep)
    (fail)
  go_upto_region 2 with fail
  obtain ⟨i0, hii, hz0, hz1, hz2⟩ := info_parts info85
  have HOw := Lib.hid (show (X1.alloc (.cells #[.int .i64 xk, .int .u32 xa, .int .i64 xn, .int .i64 xd] 85)).drew.ownsRow 0 85 4 (.slice base L.length cap) L.length (tCs L) from (HR1.out.alloc _).drew)
  have HSr := Lib.hid (show Src (X1.alloc (.cells #[.int .i64 xk, .int .u32 xa, .int .i64 xn, .int .i64 xd] 85)).drew (some ⟨X1.heap.size, 0, none⟩) 1 4 (tC ⟨xk, xa, xn, xd⟩) from src_new X1 #[.int .i64 xk, .int .u32 xa, .int .i64 xn, .int .i64 xd] 85 4 rfl)
  have HOne : Hid (∀ u ∈ tC ⟨xk, xa, xn, xd⟩, u.oneCell' = true) := Lib.hid (fun u hu => by simp [tC] at hu; rcases hu with rfl | rfl | rfl | rfl <;> rfl)
  have hBY : Below X1.heap.size X1 (X1.alloc (.cells #[.int .i64 xk, .int .u32 xa, .int .i64 xn, .int .i64 xd] 85)).drew := ((Below.refl _ X1).alloc (Nat.le_refl _) _).drew
  have ey := (World.cell?_of_block (a := ⟨p, 0, none⟩) (hBY.block p hp1s)).trans e0
  have fy := (World.frozen?_of_block (a := ⟨p, 0, none⟩) (hBY.block p hp1s)).trans fz
  have hpY := Nat.lt_of_lt_of_le hp1s hBY.size
  have HBY := Lib.hid hBY
  clear ux e1 c0 c1 q0 q1 q2 hBY
  go_region_law (refine step_append_src (X1.alloc (.cells #[.int .i64 xk, .int .u32 xa, .int .i64 xn, .int .i64 xd] 85)).drew (by rfl) _ _ _ (by rfl) 0 85 i0 _ 4 32 Try.underlying72 hii hz0 hz1 hz2 rfl (by omega) (.slice base L.length cap) L.length (tCs L) (by rfl) HOw.out (some ⟨X1.heap.size, 0, none⟩) 1 1 (tC ⟨xk, xa, xn, xd⟩) (Or.inr (by omega)) (by rfl) HSr.out HOne.out (L.length + 1) rfl (tCs L ++ tC ⟨xk, xa, xn, xd⟩) rfl (by unfold maxLen; omega) (by omega) (Nat.zero_le _) ?_; intro g3 c3 w9 hown3 hgrow3 _ hat3; have HO3 := Lib.hid hown3; have HG3 := Lib.hid hgrow3; have HA3 := Lib.hid hat3; have hb9 := hgrow3.block p hpY (fun e => (HOg.out p e.symm).1 rfl); have k0 : w9.cell? ⟨p, 0, none⟩ = some (.slice base L.length cap) := (World.cell?_of_block (a := ⟨p, 0, none⟩) hb9).trans ey; have k1 : w9.frozen? ⟨p, 0, none⟩ = false := (World.frozen?_of_block (a := ⟨p, 0, none⟩) hb9).trans fy; clear hown3 hgrow3 hat3 hb9)
  all_goals go_wp2_with fail
  all_goals exact bodyPost_end (results_none rfl _ _ _) rfl ⟨rfl, push_end HH.out HP1.out HK1.out HM1.out (Tab.push (x := ⟨xk, xa, xn, xd⟩) HTab.out (fun _ => Iff.rfl) HH.out.apk trivial (fun r hr e => HNn.out r hr ((klT_inj (HH.out.wf r hr) Hx.out).1 e))) HBY.out HO3.out HG3.out HA3.out Hx.out HNn.out⟩
end Go.Proofs.Ytkigoihdmojpfaa
