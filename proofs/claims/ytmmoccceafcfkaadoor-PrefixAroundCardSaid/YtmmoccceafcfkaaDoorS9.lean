/- slices.breakPatternsCmpFunc over prefixes. (Printed by gen_s9.py.) -/
import Derived.Test.YtmmoccceafcfkaaDoorS7
import Derived.Test.YtmmoccceafcfkaaDoorS9a
import Derived.Laws.Bits64b
namespace Go.Proofs.YtmmoccceafcfkaaDoor
open Go.RowKit Go.Shelf Go.Sort

theorem bp_and (Y Mp : Nat) (hY : Y < 18446744073709551616) (hM : Mp < 1000) : ∃ Z : Nat, Z ≤ Mp ∧ bits .and .u64 (Y : Int) (Mp : Int) = (Z : Int) :=
  ⟨Y &&& Mp, Nat.and_le_right, bits_and_u64_nat Y Mp hY (by omega)⟩
theorem SW.next {w W W' : World} {g c : Nat} {d : Array Pf} (h : SW w g d W) (hk : KB [c] W W') (hc : w.heap.size ≤ c) : SW w g d W' :=
  ⟨h.row.kb h.ltw hk (by have := h.lt; simp; omega),
   (((h.kb.sub (S' := [g, c]) (fun k hm => .inl (by simp at hm; simp [hm]))).trans (hk.sub (S' := [g, c]) (fun k hm => .inl (by simp at hm; simp [hm])))).sub
     (fun k hm => by simp at hm; rcases hm with rfl | rfl; exact .inl (by simp); exact .inr hc)), h.lt⟩
theorem RB.of_block {w w' : World} {c X : Nat} (h : RB w c X) (e : w'.heap[c]? = w.heap[c]?) : RB w' c X :=
  ⟨(World.cell?_of_block (w := w) (a := ⟨c, 0, none⟩) e).trans h.c0, by have h1 := h.f0; unfold World.frozen? at *; simp only [e] at *; exact h1⟩
theorem RB.lt {w : World} {c X : Nat} (h : RB w c X) : c < w.heap.size := World.block_lt_of_cell? w _ h.c0
theorem RB.kb {w w' : World} {c X : Nat} {S : List Nat} (h : RB w c X) (hk : KB S w w') (hn : c ∉ S) : RB w' c X := h.of_block (hk.block c h.lt hn)
set_option maxRecDepth 100000 in
set_option maxHeartbeats 8000000 in
theorem bp_any (g cap a b : Nat) (d : Array Pf) (w : World) (hA : SW w g d w) (h8 : a + 8 ≤ b) (h60 : b ≤ a + 60) (hb : b ≤ d.size) (hn : d.size ≤ 1000) :
    Calls Tryd.prog 123 #[.slice (some ⟨g, 0, none⟩) d.size cap, .int .i64 a, .int .i64 b, fv] w fun e w' => e = .returned (.tuple #[]) ∧ ∃ d' : Array Pf, SW w g d' w' ∧ PermIn a b d d' := by
  have HA := Lib.hid hA
  obtain ⟨n, hnn⟩ : ∃ n : Nat, b = a + n := ⟨b - a, by omega⟩
  subst hnn
  obtain ⟨I, hI⟩ : ∃ I : Nat, I + 1 = a + n / 4 * 2 := ⟨a + n / 4 * 2 - 1, by omega⟩
  have eN : ((a + n : Nat) : Int) - (a : Int) = (n : Int) := by omega
  have eN2 : (a : Int) + (n : Int) - (a : Int) = (n : Int) := by omega
  have eI : (a : Int) + (n : Int) / 4 * 2 - 1 = (I : Int) := by omega
  have eI2 : (a : Int) + (n : Int) / 4 * 2 + 1 = (I : Int) + 2 := by omega
  have g1 : (8 : Int) ≤ (n : Int) := by omega
  have wn : IntKind.u64.wrap (n : Int) = n := by simp [IntKind.wrap, IntKind.bits, IntKind.signed]; omega
  have bI : a ≤ I ∧ I + 2 < a + n := by omega
  have hgl : g < w.heap.size := hA.lt
  have HP := Lib.hid (fun W => npot_any n W (by omega) (by omega))
  have HX := Lib.hid (fun X W hX h => Next_any w.heap.size X W hX h)
  clear hA hI
  unfold fv
  go_enter Tryd.func123, Tryd.ntmps123
  go_upto_region 2 with fail
  go_cut [9] (fun v wx => v = .pointer (some ⟨w.heap.size, 0, none⟩) ∧ Hid (SW w g d wx) ∧ Hid (RB wx w.heap.size n))
  case first => as_aux_lemma =>
    go_wp2_with fail
    go_meet
    exact ⟨rfl, HA.out.alloc _, ⟨by simp, by simp⟩⟩
  case rest =>
  obtain ⟨rfl, HS0, HR0⟩ := hcut
  go_wp2_with (go_at_call 134; (with_reducible refine (HP.out _).mono ?_); rintro e wq ⟨⟨M, rfl, hM1, hM2⟩, rfl⟩; obtain ⟨Mp, rfl⟩ : ∃ Mp, M = Mp + 1 := ⟨M - 1, by omega⟩)
  go_loopg [11] (3) (fun m vi wr => ∃ (ix X : Nat) (dk : Array Pf), vi = .int .i64 ix ∧ I ≤ ix ∧ ix ≤ I + 3 ∧ m = I + 3 - ix ∧ dk.size = d.size ∧ X < 18446744073709551616 ∧ Hid (SW w g dk wr) ∧ Hid (RB wr w.heap.size X) ∧ Hid (PermIn a (a + n) d dk))
  case atStart => exact ⟨I, n, d, by first | rfl | go_num, by omega, by omega, by omega, rfl, by omega, HS0, HR0, permIn_refl _ _ _⟩
  case round =>
    obtain ⟨ix, X, dk, rfl, hi1, hi2, hm, hsk, hX, HS, HR, HO⟩ := hrel
    by_cases hlt : ix ≤ I + 2
    · have hltz : (ix : Int) ≤ (I : Int) + 2 := by omega
      have eM : IntKind.u64.wrap ((Mp : Int) + 1 - 1) = (Mp : Int) := by simp [IntKind.wrap, IntKind.bits, IntKind.signed]; omega
      have eM2 : IntKind.u64.wrap (Mp : Int) = (Mp : Int) := by simp [IntKind.wrap, IntKind.bits, IntKind.signed]; omega
      go_upto_region 8 with (go_at_call 135; (with_reducible refine (HX.out X wr hX HR.out).mono ?_); rintro e w1 ⟨Y, rfl, hY, hr1, hk1⟩; obtain ⟨Z, hZ1, hZ2⟩ := bp_and Y Mp hY (by omega); have HS1 := Lib.hid (HS.out.next hk1 (Nat.le_refl _)); have HR1 := Lib.hid hr1; clear hr1 hk1 HS HR)
      have HRx := Lib.hid (fun (W' : World) (h : KB [g] w1 W') => HR1.out.kb h (by simp; omega))
      by_cases hge : n ≤ Z
      · have gez : (n : Int) ≤ (Z : Int) := by omega
        obtain ⟨Z2, hz2⟩ : ∃ Z2 : Nat, Z = n + Z2 := ⟨Z - n, by omega⟩
        have ez : (Z : Int) - (n : Int) = (Z2 : Int) := by omega
        obtain ⟨O, hO⟩ : ∃ O : Nat, O = a + Z2 := ⟨_, rfl⟩
        have eo : (a : Int) + (Z2 : Int) = (O : Int) := by omega
        have bO : a ≤ O ∧ O < a + n := by omega
        clear hO hz2
        have l1 : ix < dk.size := by omega
        have l0 : O < dk.size := by omega
        clear eM hZ1 hZ2
        have up : (0 : Int) ≤ (ix : Int) := by omega
        have uq : (ix : Int) < (d.size : Int) := by omega
        have ur : ((ix : Int)).toNat = ix := by omega
        have uw : IntKind.i64.wrap ((ix : Int)) = (ix : Int) := by rw [IntKind.wrap_i64]; omega
        have kp : (0 : Int) ≤ (O : Int) := by omega
        have kq : (O : Int) < (d.size : Int) := by omega
        have kr : ((O : Int)).toNat = O := by omega
        have kw : IntKind.i64.wrap ((O : Int)) = (O : Int) := by rw [IntKind.wrap_i64]; omega
        go_upto_region 10 with fail
        by_cases hij : ix = O
        · subst hij
          have x0 := HS1.out.row.c0 l1
          have x1 := HS1.out.row.c1 l1
          obtain ⟨Qx, hx⟩ : ∃ Q, Q = dk[ix]! := ⟨_, rfl⟩
          rw [← hx] at x0 x1
          have Hx := Lib.hid hx
          clear hx
          obtain ⟨xa, xn⟩ := Qx
          simp only at x0 x1
          have xf := HS1.out.row.f0 l1
          have xg := HS1.out.row.f1 l1
          have HU := Lib.hid ((HS1.out.swap l1 l1).drew)
          have HRW := Lib.hid (HRx.out _ (((put2_kb w1 g (ix * 2) dk[ix]! (by simp)).trans (put2_kb _ g (ix * 2) dk[ix]! (by simp))).drew))
          rw [← Hx.out] at HU HRW
          go_region
          go_wp2_with fail
          go_roundg (I + 3 - (ix + 1))
          case measure => omega
          case rel => exact ⟨ix + 1, Y, swp dk ix ix, by go_num, by omega, by omega, rfl, by rw [size_swp]; exact hsk, hY, HU, HRW, permIn_trans _ _ _ _ _ HO.out (swp_permIn _ _ _ _ _ (by omega) (by omega) bO.1 bO.2 (by omega))⟩
        · have hij2 : ix * 2 ≠ O * 2 := by omega
          have x0 := HS1.out.row.c0 l1
          have x1 := HS1.out.row.c1 l1
          obtain ⟨Qx, hx⟩ : ∃ Q, Q = dk[ix]! := ⟨_, rfl⟩
          rw [← hx] at x0 x1
          have Hx := Lib.hid hx
          clear hx
          obtain ⟨xa, xn⟩ := Qx
          simp only at x0 x1
          have y0 := HS1.out.row.c0 l0
          have y1 := HS1.out.row.c1 l0
          obtain ⟨Qy, hy⟩ : ∃ Q, Q = dk[O]! := ⟨_, rfl⟩
          rw [← hy] at y0 y1
          have Hy := Lib.hid hy
          clear hy
          obtain ⟨ya, yn⟩ := Qy
          simp only at y0 y1
          have xf := HS1.out.row.f0 l1
          have xg := HS1.out.row.f1 l1
          have yf := HS1.out.row.f0 l0
          have yg := HS1.out.row.f1 l0
          have HU := Lib.hid ((HS1.out.swap l1 l0).drew)
          have HRW := Lib.hid (HRx.out _ (((put2_kb w1 g (ix * 2) dk[O]! (by simp)).trans (put2_kb _ g (O * 2) dk[ix]! (by simp))).drew))
          rw [← Hx.out, ← Hy.out] at HU HRW
          go_region
          go_wp2_with fail
          go_roundg (I + 3 - (ix + 1))
          case measure => omega
          case rel => exact ⟨ix + 1, Y, swp dk ix O, by go_num, by omega, by omega, rfl, by rw [size_swp]; exact hsk, hY, HU, HRW, permIn_trans _ _ _ _ _ HO.out (swp_permIn _ _ _ _ _ (by omega) (by omega) bO.1 bO.2 (by omega))⟩
      · have gez : ¬ (n : Int) ≤ (Z : Int) := by omega
        obtain ⟨O, hO⟩ : ∃ O : Nat, O = a + Z := ⟨_, rfl⟩
        have eo : (a : Int) + (Z : Int) = (O : Int) := by omega
        have bO : a ≤ O ∧ O < a + n := by omega
        clear hO
        have l1 : ix < dk.size := by omega
        have l0 : O < dk.size := by omega
        clear eM hZ1 hZ2
        have up : (0 : Int) ≤ (ix : Int) := by omega
        have uq : (ix : Int) < (d.size : Int) := by omega
        have ur : ((ix : Int)).toNat = ix := by omega
        have uw : IntKind.i64.wrap ((ix : Int)) = (ix : Int) := by rw [IntKind.wrap_i64]; omega
        have kp : (0 : Int) ≤ (O : Int) := by omega
        have kq : (O : Int) < (d.size : Int) := by omega
        have kr : ((O : Int)).toNat = O := by omega
        have kw : IntKind.i64.wrap ((O : Int)) = (O : Int) := by rw [IntKind.wrap_i64]; omega
        go_upto_region 10 with fail
        by_cases hij : ix = O
        · subst hij
          have x0 := HS1.out.row.c0 l1
          have x1 := HS1.out.row.c1 l1
          obtain ⟨Qx, hx⟩ : ∃ Q, Q = dk[ix]! := ⟨_, rfl⟩
          rw [← hx] at x0 x1
          have Hx := Lib.hid hx
          clear hx
          obtain ⟨xa, xn⟩ := Qx
          simp only at x0 x1
          have xf := HS1.out.row.f0 l1
          have xg := HS1.out.row.f1 l1
          have HU := Lib.hid ((HS1.out.swap l1 l1).drew)
          have HRW := Lib.hid (HRx.out _ (((put2_kb w1 g (ix * 2) dk[ix]! (by simp)).trans (put2_kb _ g (ix * 2) dk[ix]! (by simp))).drew))
          rw [← Hx.out] at HU HRW
          go_region
          go_wp2_with fail
          go_roundg (I + 3 - (ix + 1))
          case measure => omega
          case rel => exact ⟨ix + 1, Y, swp dk ix ix, by go_num, by omega, by omega, rfl, by rw [size_swp]; exact hsk, hY, HU, HRW, permIn_trans _ _ _ _ _ HO.out (swp_permIn _ _ _ _ _ (by omega) (by omega) bO.1 bO.2 (by omega))⟩
        · have hij2 : ix * 2 ≠ O * 2 := by omega
          have x0 := HS1.out.row.c0 l1
          have x1 := HS1.out.row.c1 l1
          obtain ⟨Qx, hx⟩ : ∃ Q, Q = dk[ix]! := ⟨_, rfl⟩
          rw [← hx] at x0 x1
          have Hx := Lib.hid hx
          clear hx
          obtain ⟨xa, xn⟩ := Qx
          simp only at x0 x1
          have y0 := HS1.out.row.c0 l0
          have y1 := HS1.out.row.c1 l0
          obtain ⟨Qy, hy⟩ : ∃ Q, Q = dk[O]! := ⟨_, rfl⟩
          rw [← hy] at y0 y1
          have Hy := Lib.hid hy
          clear hy
          obtain ⟨ya, yn⟩ := Qy
          simp only at y0 y1
          have xf := HS1.out.row.f0 l1
          have xg := HS1.out.row.f1 l1
          have yf := HS1.out.row.f0 l0
          have yg := HS1.out.row.f1 l0
          have HU := Lib.hid ((HS1.out.swap l1 l0).drew)
          have HRW := Lib.hid (HRx.out _ (((put2_kb w1 g (ix * 2) dk[O]! (by simp)).trans (put2_kb _ g (O * 2) dk[ix]! (by simp))).drew))
          rw [← Hx.out, ← Hy.out] at HU HRW
          go_region
          go_wp2_with fail
          go_roundg (I + 3 - (ix + 1))
          case measure => omega
          case rel => exact ⟨ix + 1, Y, swp dk ix O, by go_num, by omega, by omega, rfl, by rw [size_swp]; exact hsk, hY, HU, HRW, permIn_trans _ _ _ _ _ HO.out (swp_permIn _ _ _ _ _ (by omega) (by omega) bO.1 bO.2 (by omega))⟩
    · have hltz : ¬ (ix : Int) ≤ (I : Int) + 2 := by omega
      go_wp2_with fail
      go_end0
      exact ⟨rfl, dk, HS.out, HO.out⟩
end Go.Proofs.YtmmoccceafcfkaaDoor
