/- Swap. -/
import Derived.Test.YtkigoihdmojpfaaK3
namespace Go.Proofs.Ytkigoihdmojpfaa
open Go.RowKit

/-- a row put into four cells -/
def put4 (W : World) (g o : Nat) (r : TR) : World :=
  (((W.setCell ⟨g, o, none⟩ (.int .i64 r.kind)).setCell ⟨g, o + 1, none⟩ (.int .u32 r.addr)).setCell ⟨g, o + 2, none⟩ (.int .i64 r.len)).setCell ⟨g, o + 3, none⟩ (.int .i64 r.due)
theorem tCs_set {L : List TR} {i : Nat} (r : TR) (hi : i < L.length) : (((((tCs L).set (i * 4) (.int .i64 r.kind)).set (i * 4 + 1) (.int .u32 r.addr)).set (i * 4 + 2) (.int .i64 r.len)).set (i * 4 + 3) (.int .i64 r.due)) = tCs (L.set i r) := by
  refine tCs_ext ?_ ?_
  · simp only [List.length_set, tCs_len]
  · intro k c s hs hc
    simp only [List.getElem?_set, List.length_set, tCs_len] at hs ⊢
    have hc' : c = 0 ∨ c = 1 ∨ c = 2 ∨ c = 3 := by omega
    by_cases e : i = k
    · subst e
      rw [if_pos rfl, if_pos hi] at hs
      cases hs
      rcases hc' with rfl | rfl | rfl | rfl
      · rw [if_neg (by omega), if_neg (by omega), if_neg (by omega), if_pos (by omega), if_pos (by omega)]; rfl
      · rw [if_neg (by omega), if_neg (by omega), if_pos (by omega), if_pos (by omega)]; rfl
      · rw [if_neg (by omega), if_pos (by omega), if_pos (by omega)]; rfl
      · rw [if_pos (by omega), if_pos (by omega)]; rfl
    · rw [if_neg e] at hs
      rw [if_neg (by omega), if_neg (by omega), if_neg (by omega), if_neg (by omega)]
      exact tCs_at hs hc
theorem put4_own {W : World} {g n cap i : Nat} {L : List TR} (h : W.ownsRow 0 85 4 (.slice (some ⟨g, 0, none⟩) n cap) n (tCs L)) (r : TR) (hi : i < L.length) :
    (put4 W g (i * 4) r).ownsRow 0 85 4 (.slice (some ⟨g, 0, none⟩) n cap) n (tCs (L.set i r)) ∧ W.grownBy (put4 W g (i * 4) r) (some g) := by
  have h1 := h.stored (i * 4) (.int .i64 r.kind)
  have h2 := h1.1.stored (i * 4 + 1) (.int .u32 r.addr)
  have h3 := h2.1.stored (i * 4 + 2) (.int .i64 r.len)
  have h4 := h3.1.stored (i * 4 + 3) (.int .i64 r.due)
  rw [← tCs_set r hi]
  refine ⟨h4.1, ?_⟩
  have tr : ∀ {a b c : World}, a.grownBy b (some g) → b.grownBy c (some g) → a.grownBy c (some g) := fun {a b c} x y =>
    ⟨y.os.trans x.os, y.tape.trans x.tape, y.output.trans x.output, Nat.le_trans x.size y.size, fun k hk hn => (y.block k (Nat.lt_of_lt_of_le hk x.size) hn).trans (x.block k hk hn)⟩
  exact tr (tr (tr h1.2 h2.2) h3.2) h4.2
theorem own_cells {W : World} {g n cap i : Nat} {L : List TR} {r : TR} (h : W.ownsRow 0 85 4 (.slice (some ⟨g, 0, none⟩) n cap) n (tCs L)) (hn : n = L.length) (hi : L[i]? = some r) :
    W.cell? ⟨g, i * 4, none⟩ = some (.int .i64 r.kind) ∧ W.cell? ⟨g, i * 4 + 1, none⟩ = some (.int .u32 r.addr) ∧ W.cell? ⟨g, i * 4 + 2, none⟩ = some (.int .i64 r.len) ∧ W.cell? ⟨g, i * 4 + 3, none⟩ = some (.int .i64 r.due) := by
  have hil := (List.getElem?_eq_some_iff.1 hi).1
  have hc : ∀ c u, c < 4 → (tC r)[c]? = some u → W.cell? ⟨g, i * 4 + c, none⟩ = some u := fun c u hc hu => by
    rw [h.cellAt _ (by omega), tCs_at hi hc, hu]
  exact ⟨hc 0 _ (by omega) rfl, hc 1 _ (by omega) rfl, hc 2 _ (by omega) rfl, hc 3 _ (by omega) rfl⟩
theorem KB.drew {S : List Nat} {w w' : World} (h : KB S w w') : KB S w w'.drew := ⟨h.os, h.tape, h.output, h.size, h.block⟩
theorem gr_trans {a b c : World} {r : Option Nat} (x : a.grownBy b r) (y : b.grownBy c r) : a.grownBy c r :=
  ⟨y.os.trans x.os, y.tape.trans x.tape, y.output.trans x.output, Nat.le_trans x.size y.size, fun k hk hn => (y.block k (Nat.lt_of_lt_of_le hk x.size) hn).trans (x.block k hk hn)⟩

set_option maxRecDepth 100000 in
set_option maxHeartbeats 8000000 in
theorem Swap_raw (p m g cap : Nat) (L : List TR) (i j : Nat) (r s : TR) (D : DataW Unit) (w : World)
    (hbox : w.heap[p]? = some (.cells #[.slice (some ⟨g, 0, none⟩) L.length cap, .map (some m)] 74 (0, 0))) (hrow : w.ownsRow 0 85 4 (.slice (some ⟨g, 0, none⟩) L.length cap) L.length (tCs L))
    (hown : w.ownsMap Try.prog 29 (plainElem (H := Unit) Try.prog 3) m L.length D) (hpg : p ≠ g) (hmg : m ≠ g) (hpm : p ≠ m)
    (hi : L[i]? = some r) (hj : L[j]? = some s) (hr : r.Wf) (hs : s.Wf) (hl : L.length < 1000000) :
    Calls Try.prog 107 #[.pointer (some ⟨p, 0, none⟩), .int .i64 i, .int .i64 j] w fun e w' => e = .returned (.tuple #[]) ∧
      (w'.heap[p]? = some (.cells #[.slice (some ⟨g, 0, none⟩) L.length cap, .map (some m)] 74 (0, 0)) ∧ w'.ownsRow 0 85 4 (.slice (some ⟨g, 0, none⟩) L.length cap) L.length (tCs (swapL L i j)) ∧
       w'.ownsMap Try.prog 29 (plainElem (H := Unit) Try.prog 3) m (L.length + 1 + 1) ((D.put (klT s) (.lit (.int .i64 i))).put (klT r) (.lit (.int .i64 j))) ∧ KB [m, g] w w') := by
  have c0 : w.cell? ⟨p, 0, none⟩ = some (.slice (some ⟨g, 0, none⟩) L.length cap) := by simp [World.cell?, hbox]
  have c1 : w.cell? ⟨p, 1, none⟩ = some (.map (some m)) := by simp [World.cell?, hbox]
  have hi1 := (List.getElem?_eq_some_iff.1 hi).1
  have hj1 := (List.getElem?_eq_some_iff.1 hj).1
  obtain ⟨y0, y1, y2, y3⟩ := own_cells hrow rfl hi
  obtain ⟨z0, z1, z2, z3⟩ := own_cells hrow rfl hj
  have hF := fun o => hrow.frozenAt o
  have f0 := hF (i * 4)
  have f1 := hF (i * 4 + 1)
  have f2 := hF (i * 4 + 2)
  have f3 := hF (i * 4 + 3)
  have g0 := hF (j * 4)
  have g1 := hF (j * 4 + 1)
  have g2 := hF (j * 4 + 2)
  have g3 := hF (j * 4 + 3)
  have P1 := put4_own (W := w.drew) (L := L) (i := i) (g := g) (n := L.length) (cap := cap) hrow s hi1
  have hjs : (L.set i s)[j]? = some s := by
    rw [List.getElem?_set]
    split
    · rfl
    · exact hj
  obtain ⟨q0, q1, q2, q3⟩ := own_cells P1.1 (by simp) hjs
  -- behind the exchange
  have P1w := put4_own (W := w) (L := L) (i := i) (g := g) (n := L.length) (cap := cap) hrow s hi1
  have P2 := put4_own (W := put4 w g (i * 4) s) (L := L.set i s) (i := j) (g := g) (n := L.length) (cap := cap) P1w.1 r (by simpa using hj1)
  have hsw : (L.set i s).set j r = swapL L i j := by unfold swapL; rw [hi, hj]
  rw [hsw] at P2
  have HG1 := Lib.hid (gr_trans P1w.2 P2.2)
  have HR1 := Lib.hid P2.1
  have hS : (swapL L i j)[i]? = some s ∧ (swapL L i j)[j]? = some r := by
    rw [swapL_get hi1 hj1, swapL_get hi1 hj1]
    refine ⟨?_, by rw [if_pos rfl]; exact hi⟩
    split
    · next e => subst e; exact hj
    · rw [if_pos rfl]; exact hj
  have HS1 := Lib.hid hS
  have HBx := Lib.hid hbox
  have HOw := Lib.hid hown
  have i0 : (0 : Int) ≤ (i : Int) := by omega
  have i1 : (i : Int) < (L.length : Int) := by omega
  have j0 : (0 : Int) ≤ (j : Int) := by omega
  have j1 : (j : Int) < (L.length : Int) := by omega
  have Hr := Lib.hid hr
  have Hs := Lib.hid hs
  have hss : i = j → r = s := fun e => by subst e; rw [hi] at hj; exact Option.some.inj hj
  have HSS := Lib.hid hss
  clear hbox hrow hown hF P1 hjs P1w P2 hsw hS hi hj hr hs hss
  obtain ⟨rk, ra, rn, rd⟩ := r
  obtain ⟨sk, sa, sn, sd⟩ := s
  unfold put4 at q0 q1 q2 q3
  simp only at q0 q1 q2 q3 y0 y1 y2 y3 z0 z1 z2 z3
  go_enter Try.func107, Try.ntmps107
  go_upto_region 0 with fail
  go_cut [] (fun wx => wx = (put4 (put4 w g (i * 4) ⟨sk, sa, sn, sd⟩) g (j * 4) ⟨rk, ra, rn, rd⟩).drew)
  case first =>
    by_cases hij : i = j
    · subst hij
      have := HSS.out rfl
      cases this
      go_region
      go_wp2_with fail
      go_meet
      rfl
    · go_region
      go_wp2_with fail
      go_meet
      rfl
  case rest =>
  subst hcut
  have HRw := Lib.hid (HR1.out.drew)
  have HB1 := (KB.of_grown (S := [m, g]) HG1.out (fun k e => by cases e; simp)).drew
  have HB1h := Lib.hid HB1
  have HO1 := Lib.hid (HOw.out.kept (w' := (put4 (put4 w g (i * 4) ⟨sk, sa, sn, sd⟩) g (j * 4) ⟨rk, ra, rn, rd⟩)) HG1.out (fun e => hmg (Option.some.inj e)))
  have hX : ∀ X, X = (put4 (put4 w g (i * 4) ⟨sk, sa, sn, sd⟩) g (j * 4) ⟨rk, ra, rn, rd⟩).drew → X.ownsRow 0 85 4 (.slice (some ⟨g, 0, none⟩) L.length cap) L.length (tCs (swapL L i j)) ∧ X.ownsMap Try.prog 29 (plainElem (H := Unit) Try.prog 3) m L.length D ∧ KB [m, g] w X := fun X e => by
    subst e; exact ⟨HRw.out, HO1.out.drew, HB1h.out⟩
  clear HRw HB1 HB1h HO1 HG1 HR1 f0 f1 f2 f3 g0 g1 g2 g3 q0 q1 q2 q3 y0 y1 y2 y3 z0 z1 z2 z3
  generalize (put4 (put4 w g (i * 4) ⟨sk, sa, sn, sd⟩) g (j * 4) ⟨rk, ra, rn, rd⟩).drew = X at *
  obtain ⟨hR, hM, hK⟩ := hX X rfl
  clear hX
  have hlen : (swapL L i j).length = L.length := swapL_len L i j
  have hn2 : p ∉ [m, g] := by simp [hpm, hpg]
  -- the first store
  obtain ⟨X1, ux, hM1, gx⟩ := World.ownsMap.update (w := X.drew) hM keyed29 Try.underlying71 (by unfold maxLen; omega) Hs.out.kb.of (plainElem_int (H := Unit) Try.underlying3 (a := (i : Int)) (by exact WalkArith.wf_i64 ⟨by omega, by omega⟩))
  have hK1 : KB [m, g] w X1 := hK.drew.trans (KB.of_grown (S := [m, g]) gx (fun k e => by rw [← Option.some.inj e]; exact List.mem_cons_self))
  have hR1 : X1.ownsRow 0 85 4 (.slice (some ⟨g, 0, none⟩) L.length cap) L.length (tCs (swapL L i j)) := World.ownsRow.kept (w := X.drew) hR gx (.inr (fun e => hmg (by simpa [Value.ownBlock] using e.symm)))
  -- the second
  obtain ⟨X2, ux2, hM2, gx2⟩ := World.ownsMap.update (w := X1.drew) hM1 keyed29 Try.underlying71 (by unfold maxLen; omega) Hr.out.kb.of (plainElem_int (H := Unit) Try.underlying3 (a := (j : Int)) (by exact WalkArith.wf_i64 ⟨by omega, by omega⟩))
  have hK2 : KB [m, g] w X2 := hK1.drew.trans (KB.of_grown (S := [m, g]) gx2 (fun k e => by rw [← Option.some.inj e]; exact List.mem_cons_self))
  have hR2 : X2.ownsRow 0 85 4 (.slice (some ⟨g, 0, none⟩) L.length cap) L.length (tCs (swapL L i j)) := World.ownsRow.kept (w := X1.drew) hR1 gx2 (.inr (fun e => hmg (by simpa [Value.ownBlock] using e.symm)))
  have HR2 := Lib.hid hR2
  have HK2 := Lib.hid hK2
  have HM2 := Lib.hid hM2
  have b0 := hK.cell c0 hn2
  have b1 := hK.cell c1 hn2
  have e0 := hK1.cell c0 hn2
  have e1 := hK1.cell c1 hn2
  have r0 := hK2.cell c0 hn2
  have r1 := hK2.cell c1 hn2
  obtain ⟨y0, y1, y2, _⟩ := own_cells hR hlen.symm HS1.out.1
  obtain ⟨z0, z1, z2, _⟩ := own_cells hR1 hlen.symm HS1.out.2
  obtain ⟨v0, v1, v2, _⟩ := own_cells hR1 hlen.symm HS1.out.1
  obtain ⟨t0, t1, t2, _⟩ := own_cells hR2 hlen.symm HS1.out.2
  simp only [keyV] at ux ux2
  clear hR hM hK hM1 hK1 hR1 hM2 hK2 hR2 gx gx2 c0 c1
  go_wp2_with fail
  go_region_held3 (fun w' => w'.cell? ⟨p, 0, none⟩ = some (.slice (some ⟨g, 0, none⟩) L.length cap) ∧ w'.cell? ⟨p, 1, none⟩ = some (.map (some m)) ∧ w'.cell? ⟨g, i * 4, none⟩ = some (.int .i64 sk) ∧ w'.cell? ⟨g, i * 4 + 1, none⟩ = some (.int .u32 sa) ∧ w'.cell? ⟨g, i * 4 + 2, none⟩ = some (.int .i64 sn))
    (first | exact ⟨e0, e1, v0, v1, v2⟩ | go_keep)
    (fail)
  go_wp2_with fail
  go_region_held3 (fun w' => w'.cell? ⟨p, 0, none⟩ = some (.slice (some ⟨g, 0, none⟩) L.length cap) ∧ w'.cell? ⟨p, 1, none⟩ = some (.map (some m)) ∧ w'.cell? ⟨g, j * 4, none⟩ = some (.int .i64 rk) ∧ w'.cell? ⟨g, j * 4 + 1, none⟩ = some (.int .u32 ra) ∧ w'.cell? ⟨g, j * 4 + 2, none⟩ = some (.int .i64 rn))
    (first | exact ⟨r0, r1, t0, t1, t2⟩ | go_keep)
    (fail)
  go_wp2_with fail
  have hplt : p < w.heap.size := (Array.getElem?_eq_some_iff.1 HBx.out).1
  exact bodyPost_end (results_none rfl _ _ _) rfl ⟨rfl, (HK2.out.block p hplt hn2).trans HBx.out, HR2.out, HM2.out, HK2.out⟩

/-- the blocks of a rows object -/
def foot (p m : Nat) (v : Value) : List Nat := p :: m :: v.ownBlock.toList
theorem own_tight {W : World} {m n : Nat} {D : DataW Unit} {R : Value → Option (DataW Unit × List MemPlace)} (h : W.ownsMap Try.prog 29 R m n D) : W.ownsMap Try.prog 29 R m (Maps.size D) D := by
  obtain ⟨es, clock, hb, F, hs, hD⟩ := h
  refine ⟨es, clock, hb, F, ?_, hD⟩
  rw [hD]
  simp [Maps.size, length_sorted]
theorem HS.of {W : World} {p m n : Nat} {v : Value} {L : List TR} {D : DataW Unit} (hb : W.heap[p]? = some (.cells #[v, .map (some m)] 74 (0, 0))) (hr : W.ownsRow 0 85 4 v L.length (tCs L))
    (ho : W.ownsMap Try.prog 29 (plainElem (H := Unit) Try.prog 3) m n D) (ht : Tab (kfp klT) plD D (idx L)) (hw : ∀ r ∈ L, r.Wf) (ha : ApartS L) : HS W p m v L :=
  ⟨hb, hr, ⟨D, by have := own_tight ho; rw [ht.size, List.length_zipIdx] at this; exact this, ht⟩, hw, ha⟩

theorem Swap_any (p m : Nat) (v : Value) (L : List TR) (i j : Nat) (w : World) (h : HS w p m v L) (hi : i < L.length) (hj : j < L.length) (hl : L.length < 1000000) :
    Calls Try.prog 107 #[.pointer (some ⟨p, 0, none⟩), .int .i64 i, .int .i64 j] w fun e w' => e = .returned (.tuple #[]) ∧ HS w' p m v (swapL L i j) ∧ KB (foot p m v) w w' := by
  have hx : L[i]? = some L[i] := List.getElem?_eq_getElem hi
  have hy : L[j]? = some L[j] := List.getElem?_eq_getElem hj
  have hwx := h.wf _ (List.mem_of_getElem? hx)
  have hwy := h.wf _ (List.mem_of_getElem? hy)
  obtain ⟨D, ho, ht⟩ := h.map
  have hne := h.row.2
  rcases hne with ⟨_, h0⟩ | ⟨g, cap, cur, rfl, hb, hg, rest⟩
  · omega
  · refine (Swap_raw p m g cap L i j _ _ D w h.box h.row ho (h.pg rfl) (h.mg rfl) h.pm hx hy hwx hwy hl).mono ?_
    rintro e w' ⟨h1, h2, h3, h4, h5⟩
    refine ⟨h1, ?_, h5.sub (fun c hc => .inl ?_)⟩
    · have hp := swapL_perm L i j
      refine HS.of h2 (by rw [swapL_len]; exact h3) h4 (Tab.swap ht (fun _ => Iff.rfl) h.apk (fun _ _ => trivial) hx hy) (fun r hr => h.wf r (hp.mem_iff.1 hr)) (h.ap.perm hp.symm)
    · simp [foot, Value.ownBlock] at hc ⊢
      rcases hc with rfl | rfl <;> simp
end Go.Proofs.Ytkigoihdmojpfaa
