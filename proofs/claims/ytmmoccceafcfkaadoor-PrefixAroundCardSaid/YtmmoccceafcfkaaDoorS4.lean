/- slices.heapSortCmpFunc over prefixes. (Printed by gen_s4.py.) -/
import Derived.Test.YtmmoccceafcfkaaDoorS3
namespace Go.Proofs.YtmmoccceafcfkaaDoor
open Go.RowKit Go.Shelf Go.Sort

theorem set_self (d : Array Pf) (i : Nat) : d.setIfInBounds i d[i]! = d := by
  apply Array.ext_getElem?
  intro k
  rw [Array.getElem?_setIfInBounds]
  split
  · next e =>
    subst e
    split
    · next h => rw [getElem!_pos d i h, Array.getElem?_eq_getElem h]
    · next h => rw [Array.getElem?_eq_none (by omega)]
  · rfl
theorem swp_self (d : Array Pf) (i : Nat) : swp d i i = d := by
  unfold swp
  rw [set_self, set_self]
set_option maxRecDepth 100000 in
set_option maxHeartbeats 8000000 in
theorem heap_any (g cap a b : Nat) (d : Array Pf) (w : World) (hA : SW w g d w) (hab : a < b) (hb : b ≤ d.size) (hn : d.size ≤ 1000) :
    Calls Tryd.prog 122 #[.slice (some ⟨g, 0, none⟩) d.size cap, .int .i64 a, .int .i64 b, fv] w fun e w' => e = .returned (.tuple #[]) ∧ SW w g (heapSort pltB d a b) w' := by
  have HA := Lib.hid hA
  obtain ⟨n, hnn⟩ : ∃ n : Nat, b = a + n := ⟨b - a, by omega⟩
  subst hnn
  have HSi := Lib.hid (fun (lo hi : Nat) (dk : Array Pf) (W : World) (hW : SW w g dk W) (hs : dk.size = d.size) (h1 : a + hi ≤ d.size) (h2 : lo ≤ 1000) => by
    have h := sift_any g cap lo hi a dk W hW.rowW (by omega) h2 (by omega)
    rw [hs] at h
    exact h)
  clear hA
  have eN : ((a + n : Nat) : Int) - (a : Int) = (n : Int) := by omega
  have eN2 : (a : Int) + (n : Int) - (a : Int) = (n : Int) := by omega
  have n1 : 1 ≤ n := by omega
  unfold fv at *
  go_enter Tryd.func122, Tryd.ntmps122
  go_wp2_with fail
  go_loopg [11] ((n - 1) / 2 + 1) (fun m vi wr => ∃ (k : Nat) (dk : Array Pf), vi = .int .i64 ((k : Int) - 1) ∧ k ≤ n ∧ m = k ∧ dk.size = d.size ∧ Hid (SW w g dk wr) ∧ Hid (heapBuild pltB n a k dk = heapBuild pltB n a ((n - 1) / 2 + 1) d))
  case atStart => exact ⟨(n - 1) / 2 + 1, d, by go_num, by omega, rfl, rfl, HA, rfl⟩
  case round =>
    obtain ⟨k, dk, rfl, hk, hm, hsk, HS, HO⟩ := hrel
    by_cases h0 : k = 0
    · subst h0
      have t1 : ¬ (0 : Int) ≤ ((0 : Nat) : Int) - 1 := by omega
      have HO2 := Lib.hid (show dk = heapBuild pltB n a ((n - 1) / 2 + 1) d from HO.out)
      clear HO
      have HS1 := Lib.hid HS.out
      obtain ⟨d1, hd1⟩ : ∃ d1, d1 = dk := ⟨_, rfl⟩
      rw [← hd1] at HO2
      have hs1 : d1.size = d.size := by rw [hd1]; exact hsk
      have HSd := Lib.hid (show SW w g d1 wr by rw [hd1]; exact HS.out)
      clear HS HS1 hd1 hsk
      go_wp2_with fail
      go_loopg [12] n (fun m vi wr => ∃ (k : Nat) (dk : Array Pf), vi = .int .i64 ((k : Int) - 1) ∧ k ≤ n ∧ m = k ∧ dk.size = d.size ∧ Hid (SW w g dk wr) ∧ Hid (heapPop pltB a k dk = heapPop pltB a n d1))
      case atStart => exact ⟨n, d1, by first | rfl | go_num, by omega, rfl, hs1, HSd, rfl⟩
      case round =>
        obtain ⟨k, dk, rfl, hk, hm, hsk, HS, HP⟩ := hrel
        by_cases h0 : k = 0
        · subst h0
          have t2 : ¬ (0 : Int) ≤ ((0 : Nat) : Int) - 1 := by omega
          go_wp2_with fail
          go_end0
          refine ⟨rfl, ?_⟩
          have h := HS.out
          have e : heapSort pltB d a (a + n) = dk := by
            unfold heapSort
            rw [Nat.add_sub_cancel_left, ← HO2.out, ← HP.out]
            rfl
          rw [e]
          exact h
        · obtain ⟨k1, rfl⟩ : ∃ k1, k = k1 + 1 := ⟨k - 1, by omega⟩
          have ek : ((k1 + 1 : Nat) : Int) - 1 = (k1 : Int) := by omega
          rw [ek]
          have l1 : a < dk.size := by omega
          have l2 : a + k1 < dk.size := by omega
          have ip : (0 : Int) ≤ (a : Int) := by omega
          have iq : (a : Int) < (d.size : Int) := by omega
          have ir : ((a : Int)).toNat = a := by omega
          have iw : IntKind.i64.wrap ((a : Int)) = (a : Int) := by rw [IntKind.wrap_i64]; omega
          have kp : (0 : Int) ≤ (a : Int) + (k1 : Int) := by omega
          have kq : (a : Int) + (k1 : Int) < (d.size : Int) := by omega
          have kr : ((a : Int) + (k1 : Int)).toNat = a + k1 := by omega
          have kw : IntKind.i64.wrap ((a : Int) + (k1 : Int)) = (a : Int) + (k1 : Int) := by rw [IntKind.wrap_i64]; omega
          have HSi2 := Lib.hid (fun (W : World) (hW : SW w g (swp dk a (a + k1)) W) => HSi.out 0 k1 _ W hW (by rw [size_swp]; exact hsk) (by omega) (by omega))
          go_upto_region 10 with fail
          go_cut [] (fun wx => Hid (SW w g (swp dk a (a + k1)) wx))
          case first =>
            by_cases hk0 : k1 = 0
            · subst hk0
              have x0 := HS.out.row.c0 l1
              have x1 := HS.out.row.c1 l1
              obtain ⟨Qx, hx⟩ : ∃ Q, Q = dk[a]! := ⟨_, rfl⟩
              rw [← hx] at x0 x1
              have Hx := Lib.hid hx
              clear hx
              obtain ⟨xa, xn⟩ := Qx
              simp only at x0 x1
              have xf := HS.out.row.f0 l1
              have xg := HS.out.row.f1 l1
              have HU := Lib.hid ((HS.out.swap l1 l1).drew)
              rw [← Hx.out] at HU
              go_region
              go_wp2_with fail
              go_meet
              have h := HU.out
              simp only [Nat.add_zero]
              exact h
            · have hk1 : a * 2 ≠ (a + k1) * 2 := by omega
              have x0 := HS.out.row.c0 l1
              have x1 := HS.out.row.c1 l1
              obtain ⟨Qx, hx⟩ : ∃ Q, Q = dk[a]! := ⟨_, rfl⟩
              rw [← hx] at x0 x1
              have Hx := Lib.hid hx
              clear hx
              obtain ⟨xa, xn⟩ := Qx
              simp only at x0 x1
              have y0 := HS.out.row.c0 l2
              have y1 := HS.out.row.c1 l2
              obtain ⟨Qy, hy⟩ : ∃ Q, Q = dk[a + k1]! := ⟨_, rfl⟩
              rw [← hy] at y0 y1
              have Hy := Lib.hid hy
              clear hy
              obtain ⟨ya, yn⟩ := Qy
              simp only at y0 y1
              have xf := HS.out.row.f0 l1
              have xg := HS.out.row.f1 l1
              have yf := HS.out.row.f0 l2
              have yg := HS.out.row.f1 l2
              have HU := Lib.hid ((HS.out.swap l1 l2).drew)
              rw [← Hx.out, ← Hy.out] at HU
              go_region
              go_wp2_with fail
              go_meet
              exact HU.out
          case rest =>
            have HW1 := Lib.hid (HSi2.out _ hcut.out)
            go_wp2_with (go_at_call 133; refine HW1.out.mono ?_; rintro e w2 ⟨rfl, hw2⟩; have HW2 := Lib.hid (hcut.out.then hw2); clear hw2)
            go_roundg k1
            case measure => omega
            case rel => exact ⟨k1, siftDown pltB k1 a 0 (swp dk a (a + k1)), by go_num, by omega, rfl, by rw [size_sift _ _ _ _ _ _ (Nat.le_refl _), size_swp]; exact hsk, HW2, HP⟩
    · obtain ⟨k1, rfl⟩ : ∃ k1, k = k1 + 1 := ⟨k - 1, by omega⟩
      have ek : ((k1 + 1 : Nat) : Int) - 1 = (k1 : Int) := by omega
      rw [ek]
      go_wp2_with (go_at_call 133; (with_reducible refine (HSi.out k1 n dk wr HS.out hsk (by omega) (by omega)).mono ?_); rintro e w2 ⟨rfl, hw2⟩; have HW2 := Lib.hid (HS.out.then hw2); clear hw2)
      go_roundg k1
      case measure => omega
      case rel => exact ⟨k1, siftDown pltB n a k1 dk, by go_num, by omega, rfl, by rw [size_sift _ _ _ _ _ _ (Nat.le_refl _)]; exact hsk, HW2, HO⟩
end Go.Proofs.YtmmoccceafcfkaaDoor
