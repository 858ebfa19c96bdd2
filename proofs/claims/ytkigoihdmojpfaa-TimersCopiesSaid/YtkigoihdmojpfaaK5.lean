/- heap.up, heap.down. -/
import Derived.Test.YtkigoihdmojpfaaK4
import Derived.Deep.LoopGhost
namespace Go.Proofs.Ytkigoihdmojpfaa
open Go.RowKit

def rv (p : Nat) : Value := .pointer (some ⟨p, 0, none⟩)
theorem mLen (p : Nat) (w : World) : (method 264 70 (.pointer (some ⟨p, 0, none⟩)) "Len").run Try.prog w = .ok (43, .pointer (some ⟨p, 0, none⟩)) w := by kernel_rfl
theorem mLess (p : Nat) (w : World) : (method 264 70 (.pointer (some ⟨p, 0, none⟩)) "Less").run Try.prog w = .ok (104, .pointer (some ⟨p, 0, none⟩)) w := by kernel_rfl
theorem mPop (p : Nat) (w : World) : (method 264 70 (.pointer (some ⟨p, 0, none⟩)) "Pop").run Try.prog w = .ok (105, .pointer (some ⟨p, 0, none⟩)) w := by kernel_rfl
theorem mPush (p : Nat) (w : World) : (method 264 70 (.pointer (some ⟨p, 0, none⟩)) "Push").run Try.prog w = .ok (106, .pointer (some ⟨p, 0, none⟩)) w := by kernel_rfl
theorem mSwap (p : Nat) (w : World) : (method 264 70 (.pointer (some ⟨p, 0, none⟩)) "Swap").run Try.prog w = .ok (107, .pointer (some ⟨p, 0, none⟩)) w := by kernel_rfl

/-- the list of a heap was turned as far as lim -/
structure Turned (w W : World) (p m : Nat) (v : Value) (L0 L : List TR) (lim : Nat → Prop) : Prop where
  hs : HS W p m v L
  kb : KB (foot p m v) w W
  perm : L.Perm L0
  far : ∀ k, lim k → L[k]? = L0[k]?
theorem Turned.len {w W : World} {p m : Nat} {v : Value} {L0 L : List TR} {lim : Nat → Prop} (h : Turned w W p m v L0 L lim) : L.length = L0.length := h.perm.length_eq
theorem Turned.below {w W W' : World} {p m : Nat} {v : Value} {L0 L : List TR} {lim : Nat → Prop} (h : Turned w W p m v L0 L lim) (hb : Below W.heap.size W W') : Turned w W' p m v L0 L lim :=
  ⟨h.hs.below hb, h.kb.trans (KB.of_below hb), h.perm, h.far⟩
theorem Turned.swap {w W W' : World} {p m : Nat} {v : Value} {L0 L : List TR} {lim : Nat → Prop} {i j : Nat} (h : Turned w W p m v L0 L lim) (hs : HS W' p m v (swapL L i j)) (hk : KB (foot p m v) W W') (hi : i < L.length) (hj : j < L.length) (hl : ∀ k, lim k → k ≠ i ∧ k ≠ j) : Turned w W' p m v L0 (swapL L i j) lim :=
  ⟨hs, h.kb.trans hk, (swapL_perm L i j).trans h.perm, fun k hk => by
    obtain ⟨h1, h2⟩ := hl k hk
    rw [swapL_get hi hj, if_neg h2, if_neg h1]
    exact h.far k hk⟩

def upRel (w : World) (p m : Nat) (v : Value) (L0 : List TR) (n j0 k : Nat) (s : Value) (wr : World) : Prop :=
  ∃ (j : Nat) (L : List TR), s = .int .i64 j ∧ k = j ∧ j ≤ j0 ∧ Turned w wr p m v L0 L (fun k => j0 < k) ∧ Ux ltT L n j

set_option maxRecDepth 100000 in
set_option maxHeartbeats 8000000 in
theorem up_any (p m : Nat) (v : Value) (L0 : List TR) (n j0 : Nat) (w : World) (h : HS w p m v L0) (hl : L0.length < 1000000) (hn : n ≤ L0.length) (hj : j0 < n) (hu : Ux ltT L0 n j0) :
    Calls Try.prog 55 #[.iface 70 (.pointer (some ⟨p, 0, none⟩)), .int .i64 j0] w fun e w' => e = .returned (.tuple #[]) ∧ ∃ L, Turned w w' p m v L0 L (fun k => j0 < k) ∧ Hp ltT L n := by
  have m1 := mLess p
  have m2 := mSwap p
  have HT0 := Lib.hid (show Turned w w p m v L0 L0 (fun k => j0 < k) from ⟨h, KB.refl _ _, List.Perm.refl _, fun _ _ => rfl⟩)
  have HU0 := Lib.hid hu
  clear h hu
  go_enter Try.func55, Try.ntmps55
  go_wp2_with fail
  go_loopg [1] j0 (upRel w p m v L0 n j0)
  case atStart => exact ⟨j0, L0, rfl, rfl, Nat.le_refl _, HT0.out, HU0.out⟩
  case round =>
    obtain ⟨j, L, rfl, hk, hjj, hT, hU⟩ := hrel
    have HT := Lib.hid hT
    have HU := Lib.hid hU
    have HK := Lib.hid hk
    have hlen := hT.len
    clear hT hU hk
    by_cases h0 : j = 0
    · subst h0
      go_wp2_with fail
      exact bodyPost_end (results_none rfl _ _ _) rfl ⟨rfl, L, HT.out, HU.out.done (.inl rfl)⟩
    · have hp1 : par j < j := by simp only [par]; omega
      obtain ⟨x, hx⟩ : ∃ x, L[j]? = some x := ⟨_, List.getElem?_eq_getElem (by omega)⟩
      obtain ⟨y, hy⟩ : ∃ y, L[par j]? = some y := ⟨_, List.getElem?_eq_getElem (by omega)⟩
      have hq : ((par j : Nat) : Int) = ((j : Int) - 1) / 2 := by simp only [par]; omega
      have hLess := Less_any p m v L j (par j) x y wr HT.out.hs hx hy (by omega)
      have HSw := Lib.hid (fun W (hT : Turned w W p m v L0 L (fun k => j0 < k)) => Swap_any p m v L (par j) j W hT.hs (by omega) (by omega) (by omega))
      rw [hq] at hLess HSw
      have t1 : ((((j : Int) - 1) / 2) == (j : Int)) = false := by simp; omega
      have HX := Lib.hid hx
      have HY := Lib.hid hy
      have HQ := Lib.hid hq
      clear hx hy hq
      cases hlt : ltT x y with
      | false =>
        rw [hlt] at hLess
        have HL := Lib.hid hLess
        have HLT := Lib.hid hlt
        clear hLess hlt
        go_wp2_with (go_at_call 104; (with_reducible refine HL.out.mono ?_); rintro e w2 ⟨rfl, hb2⟩; have HB := Lib.hid hb2; clear hb2)
        exact bodyPost_end (results_none rfl _ _ _) rfl ⟨rfl, L, HT.out.below HB.out, HU.out.done (.inr (fun a b ha hb => by rw [HX.out] at ha; rw [HY.out] at hb; cases ha; cases hb; exact HLT.out))⟩
      | true =>
        rw [hlt] at hLess
        have HL := Lib.hid hLess
        have HLT := Lib.hid hlt
        clear hLess hlt
        go_wp2_with (first | (go_at_call 104; (with_reducible refine HL.out.mono ?_); rintro e w2 ⟨rfl, hb2⟩; have HB := Lib.hid hb2; clear hb2) | (go_at_call 107; (with_reducible refine (HSw.out _ (HT.out.below HB.out)).mono ?_); rintro e w3 ⟨rfl, hs3, hk3⟩; have HS3 := Lib.hid hs3; have HK3 := Lib.hid hk3; clear hs3 hk3))
        go_roundg (par j)
        case measure => have := HK.out; omega
        case rel =>
          refine ⟨par j, swapL L (par j) j, by rw [HQ.out], rfl, by omega, (HT.out.below HB.out).swap HS3.out HK3.out (by omega) (by omega) (fun k hk => ⟨by omega, by omega⟩), ?_⟩
          exact HU.out.up weakT (by omega) (by omega) (by omega) HX.out HY.out HLT.out

/-- what down leaves -/
def DownP (w : World) (p m : Nat) (v : Value) (L0 : List TR) (n i0 : Nat) (e : Ending) (w' : World) : Prop :=
  ∃ b L, e = .returned (.bool b) ∧ Turned w w' p m v L0 L (fun k => n ≤ k) ∧ (b = true → Hp ltT L n) ∧ (b = false → L = L0 ∧ Ux ltT L n i0)
/-- how down goes on -/
def downRel (w : World) (p m : Nat) (v : Value) (L0 : List TR) (n i0 k : Nat) (s : Value) (wr : World) : Prop :=
  ∃ (i : Nat) (L : List TR), s = .int .i64 i ∧ k = n - i ∧ i0 ≤ i ∧ i < n ∧ Turned w wr p m v L0 L (fun k => n ≤ k) ∧ Ax ltT L n i ∧ (i = i0 → L = L0) ∧ (i0 < i → NL ltT L i (par i))
theorem downRel.done {_w _wr : World} {_p _m : Nat} {_v : Value} {L0 L : List TR} {n i0 i : Nat} (hax : Ax ltT L n i) (h0 : i = i0 → L = L0) (h1 : i0 < i → NL ltT L i (par i)) (hi : i0 ≤ i) (hc : ∀ k, 0 < k → k < n → par k = i → NL ltT L k i) :
    (i0 < i → Hp ltT L n) ∧ (¬ i0 < i → L = L0 ∧ Ux ltT L n i0) := by
  have hu := hax.stay hc
  refine ⟨fun h => hu.done (.inr (h1 h)), fun h => ?_⟩
  have e : i = i0 := by omega
  exact ⟨h0 e, by rw [← e]; exact hu⟩

set_option maxRecDepth 100000 in
set_option maxHeartbeats 16000000 in
theorem down_any (p m : Nat) (v : Value) (L0 : List TR) (n i0 : Nat) (w : World) (h : HS w p m v L0) (hl : L0.length < 1000000) (hn : n ≤ L0.length) (hi : i0 < n) (hu : Ax ltT L0 n i0) :
    Calls Try.prog 54 #[.iface 70 (.pointer (some ⟨p, 0, none⟩)), .int .i64 i0, .int .i64 n] w fun e w' => DownP w p m v L0 n i0 e w' := by
  have m1 := mLess p
  have m2 := mSwap p
  have HT0 := Lib.hid (show Turned w w p m v L0 L0 (fun k => n ≤ k) from ⟨h, KB.refl _ _, List.Perm.refl _, fun _ _ => rfl⟩)
  have HU0 := Lib.hid hu
  clear h hu
  go_enter Try.func54, Try.ntmps54
  go_wp2_with fail
  go_loopg [7] (n - i0) (downRel w p m v L0 n i0)
  case atStart => exact ⟨i0, L0, rfl, rfl, Nat.le_refl _, hi, HT0.out, HU0.out, fun _ => rfl, fun h => by omega⟩
  case round =>
    obtain ⟨i, L, rfl, hk, hii, hin, hT, hU, hE, hN⟩ := hrel
    have HT := Lib.hid hT
    have HU := Lib.hid hU
    have HE := Lib.hid hE
    have HN := Lib.hid hN
    have HK := Lib.hid hk
    have hlen := hT.len
    clear hT hU hk hE hN
    have HSw := Lib.hid (fun W L' j (hT : Turned w W p m v L0 L' (fun k => n ≤ k)) (hj : j < L'.length) (hi : i < L'.length) => Swap_any p m v L' i j W hT.hs hi hj (by have := hT.len; omega))
    by_cases h1 : n ≤ 2 * i + 1
    · have t1 : decide ((n : Int) ≤ 2 * (i : Int) + 1) = true := by simp; omega
      have HD := Lib.hid (downRel.done (_w := w) (_wr := w) (_p := p) (_m := m) (_v := v) HU.out HE.out HN.out hii (fun k hk0 hkn hp => by exfalso; simp only [par] at hp; omega))
      by_cases hb : i0 < i
      · have t2 : decide ((i0 : Int) < (i : Int)) = true := by simp [hb]
        go_wp2_with fail
        go_ret
        exact ⟨true, L, rfl, HT.out, fun _ => HD.out.1 hb, fun h => by cases h⟩
      · have t2 : decide ((i0 : Int) < (i : Int)) = false := by simp; omega
        go_wp2_with fail
        go_ret
        exact ⟨false, L, rfl, HT.out, fun h => (by cases h), fun _ => HD.out.2 hb⟩
    · have t1 : decide ((n : Int) ≤ 2 * (i : Int) + 1) = false := by simp; omega
      have t3 : decide (2 * (i : Int) + 1 < 0) = false := by simp; omega
      obtain ⟨z, hz⟩ : ∃ z, L[i]? = some z := ⟨_, List.getElem?_eq_getElem (by omega)⟩
      obtain ⟨x, hx⟩ : ∃ x, L[2 * i + 1]? = some x := ⟨_, List.getElem?_eq_getElem (by omega)⟩
      have HX := Lib.hid hx
      have HZ := Lib.hid hz
      -- the lesser child j: then the end or the next round
      have HFin := Lib.hid (fun (j : Nat) (u : TR) (hj : L[j]? = some u) (hp : par j = i) (hjn : j < n) (hj0 : 0 < j) (hmin : ∀ k, 0 < k → k < n → par k = i → NL ltT L k j) (hlt : ltT u z = false) =>
        downRel.done (_w := w) (_wr := w) (_p := p) (_m := m) (_v := v) HU.out HE.out HN.out hii (fun k hk0 hkn hpk => (hmin k hk0 hkn hpk).trans weakT (fun a b ha hb => by rw [hj] at ha; rw [HZ.out] at hb; cases ha; cases hb; exact hlt) (by omega)))
      have HGo := Lib.hid (fun (j : Nat) (u : TR) (hj : L[j]? = some u) (hp : par j = i) (hjn : j < n) (hj0 : 0 < j) (hmin : ∀ k, 0 < k → k < n → par k = i → NL ltT L k j) (hlt : ltT u z = true) =>
        HU.out.down weakT hj0 hjn hp (by omega) hj HZ.out hlt hmin)
      clear hx hz
      by_cases h3 : 2 * i + 1 + 1 < n
      · have t4 : decide (2 * (i : Int) + 1 + 1 < (n : Int)) = true := by simp; omega
        obtain ⟨y, hy⟩ : ∃ y, L[2 * i + 1 + 1]? = some y := ⟨_, List.getElem?_eq_getElem (by omega)⟩
        have HY := Lib.hid hy
        clear hy
        have HL1 := Lib.hid (fun W (hT : Turned w W p m v L0 L (fun k => n ≤ k)) => Less_any p m v L (2 * i + 1 + 1) (2 * i + 1) y x W hT.hs HY.out HX.out (by omega))
        have e1 : ((2 * i + 1 + 1 : Nat) : Int) = 2 * (i : Int) + 1 + 1 := by omega
        have e2 : ((2 * i + 1 : Nat) : Int) = 2 * (i : Int) + 1 := by omega
        rw [e1, e2] at HL1
        clear e1 e2
        cases hlt : ltT y x with
        | true =>
          simp only [hlt] at HL1
          have HMin : Hid (∀ k, 0 < k → k < n → par k = i → NL ltT L k (2 * i + 1 + 1)) := Lib.hid (fun k hk0 hkn hpk a b ha hb => by
            have hb' := HY.out
            rw [hb'] at hb
            cases hb
            rcases (show k = 2 * i + 1 ∨ k = 2 * i + 1 + 1 by simp only [par] at hpk; omega) with rfl | rfl
            · have hx' := HX.out; rw [hx'] at ha; cases ha; exact weakT.asym hlt
            · rw [hb'] at ha; cases ha; exact irr weakT _)
          clear hlt
          have HL2 := Lib.hid (fun W (hT : Turned w W p m v L0 L (fun k => n ≤ k)) => Less_any p m v L (2 * i + 1 + 1) i y z W hT.hs HY.out HZ.out (by omega))
          have HS2 := Lib.hid (fun W (hT : Turned w W p m v L0 L (fun k => n ≤ k)) => HSw.out W L (2 * i + 1 + 1) hT (by omega) (by omega))
          have ej : ((2 * i + 1 + 1 : Nat) : Int) = 2 * (i : Int) + 1 + 1 := by omega
          rw [ej] at HL2 HS2
          have HEJ := Lib.hid ej
          clear ej
          cases h2 : ltT y z with
          | true =>
            simp only [h2] at HL2
            have HG2 := Lib.hid (HGo.out (2 * i + 1 + 1) y HY.out (by simp only [par]; omega) (by omega) (by omega) HMin.out h2)
            clear h2 HFin HGo
            go_wp2_with (first | (go_at_call 104; (with_reducible refine (HL1.out _ HT.out).mono ?_); rintro e w2 ⟨rfl, hb2⟩; have HT2 := Lib.hid (HT.out.below hb2); clear hb2) | (go_at_call 104; (with_reducible refine (HL2.out _ HT2.out).mono ?_); rintro e w3 ⟨rfl, hb3⟩; have HT3 := Lib.hid (HT2.out.below hb3); clear hb3) | (go_at_call 107; (with_reducible refine (HS2.out _ HT3.out).mono ?_); rintro e w4 ⟨rfl, hs4, hk4⟩; have HS4 := Lib.hid hs4; have HK4 := Lib.hid hk4; clear hs4 hk4))
            go_roundg (n - (2 * i + 1 + 1))
            case measure => have := HK.out; omega
            case rel => exact ⟨2 * i + 1 + 1, swapL L i (2 * i + 1 + 1), by rw [HEJ.out], rfl, by omega, by omega, HT3.out.swap HS4.out HK4.out (by omega) (by omega) (fun k hk => ⟨by omega, by omega⟩), HG2.out.1, fun e => by omega, fun _ => (by have e : par (2 * i + 1 + 1) = i := (by simp only [par]; omega); rw [e]; exact HG2.out.2.1)⟩
          | false =>
            simp only [h2] at HL2
            have HD := Lib.hid (HFin.out (2 * i + 1 + 1) y HY.out (by simp only [par]; omega) (by omega) (by omega) HMin.out h2)
            clear h2 HFin HGo
            by_cases hb : i0 < i
            · have t2 : decide ((i0 : Int) < (i : Int)) = true := by simp [hb]
              go_wp2_with (first | (go_at_call 104; (with_reducible refine (HL1.out _ HT.out).mono ?_); rintro e w2 ⟨rfl, hb2⟩; have HT2 := Lib.hid (HT.out.below hb2); clear hb2) | (go_at_call 104; (with_reducible refine (HL2.out _ HT2.out).mono ?_); rintro e w3 ⟨rfl, hb3⟩; have HT3 := Lib.hid (HT2.out.below hb3); clear hb3))
              go_ret
              exact ⟨true, L, rfl, HT3.out, fun _ => HD.out.1 hb, fun h => by cases h⟩
            · have t2 : decide ((i0 : Int) < (i : Int)) = false := by simp; omega
              go_wp2_with (first | (go_at_call 104; (with_reducible refine (HL1.out _ HT.out).mono ?_); rintro e w2 ⟨rfl, hb2⟩; have HT2 := Lib.hid (HT.out.below hb2); clear hb2) | (go_at_call 104; (with_reducible refine (HL2.out _ HT2.out).mono ?_); rintro e w3 ⟨rfl, hb3⟩; have HT3 := Lib.hid (HT2.out.below hb3); clear hb3))
              go_ret
              exact ⟨false, L, rfl, HT3.out, fun h => (by cases h), fun _ => HD.out.2 hb⟩
        | false =>
          simp only [hlt] at HL1
          have HMin : Hid (∀ k, 0 < k → k < n → par k = i → NL ltT L k (2 * i + 1)) := Lib.hid (fun k hk0 hkn hpk a b ha hb => by
            have hb' := HX.out
            rw [hb'] at hb
            cases hb
            rcases (show k = 2 * i + 1 ∨ k = 2 * i + 1 + 1 by simp only [par] at hpk; omega) with rfl | rfl
            · rw [hb'] at ha; cases ha; exact irr weakT _
            · have hy' := HY.out; rw [hy'] at ha; cases ha; exact hlt)
          clear hlt
          have HL2 := Lib.hid (fun W (hT : Turned w W p m v L0 L (fun k => n ≤ k)) => Less_any p m v L (2 * i + 1) i x z W hT.hs HX.out HZ.out (by omega))
          have HS2 := Lib.hid (fun W (hT : Turned w W p m v L0 L (fun k => n ≤ k)) => HSw.out W L (2 * i + 1) hT (by omega) (by omega))
          have ej : ((2 * i + 1 : Nat) : Int) = 2 * (i : Int) + 1 := by omega
          rw [ej] at HL2 HS2
          have HEJ := Lib.hid ej
          clear ej
          cases h2 : ltT x z with
          | true =>
            simp only [h2] at HL2
            have HG2 := Lib.hid (HGo.out (2 * i + 1) x HX.out (by simp only [par]; omega) (by omega) (by omega) HMin.out h2)
            clear h2 HFin HGo
            go_wp2_with (first | (go_at_call 104; (with_reducible refine (HL1.out _ HT.out).mono ?_); rintro e w2 ⟨rfl, hb2⟩; have HT2 := Lib.hid (HT.out.below hb2); clear hb2) | (go_at_call 104; (with_reducible refine (HL2.out _ HT2.out).mono ?_); rintro e w3 ⟨rfl, hb3⟩; have HT3 := Lib.hid (HT2.out.below hb3); clear hb3) | (go_at_call 107; (with_reducible refine (HS2.out _ HT3.out).mono ?_); rintro e w4 ⟨rfl, hs4, hk4⟩; have HS4 := Lib.hid hs4; have HK4 := Lib.hid hk4; clear hs4 hk4))
            go_roundg (n - (2 * i + 1))
            case measure => have := HK.out; omega
            case rel => exact ⟨2 * i + 1, swapL L i (2 * i + 1), by rw [HEJ.out], rfl, by omega, by omega, HT3.out.swap HS4.out HK4.out (by omega) (by omega) (fun k hk => ⟨by omega, by omega⟩), HG2.out.1, fun e => by omega, fun _ => (by have e : par (2 * i + 1) = i := (by simp only [par]; omega); rw [e]; exact HG2.out.2.1)⟩
          | false =>
            simp only [h2] at HL2
            have HD := Lib.hid (HFin.out (2 * i + 1) x HX.out (by simp only [par]; omega) (by omega) (by omega) HMin.out h2)
            clear h2 HFin HGo
            by_cases hb : i0 < i
            · have t2 : decide ((i0 : Int) < (i : Int)) = true := by simp [hb]
              go_wp2_with (first | (go_at_call 104; (with_reducible refine (HL1.out _ HT.out).mono ?_); rintro e w2 ⟨rfl, hb2⟩; have HT2 := Lib.hid (HT.out.below hb2); clear hb2) | (go_at_call 104; (with_reducible refine (HL2.out _ HT2.out).mono ?_); rintro e w3 ⟨rfl, hb3⟩; have HT3 := Lib.hid (HT2.out.below hb3); clear hb3))
              go_ret
              exact ⟨true, L, rfl, HT3.out, fun _ => HD.out.1 hb, fun h => by cases h⟩
            · have t2 : decide ((i0 : Int) < (i : Int)) = false := by simp; omega
              go_wp2_with (first | (go_at_call 104; (with_reducible refine (HL1.out _ HT.out).mono ?_); rintro e w2 ⟨rfl, hb2⟩; have HT2 := Lib.hid (HT.out.below hb2); clear hb2) | (go_at_call 104; (with_reducible refine (HL2.out _ HT2.out).mono ?_); rintro e w3 ⟨rfl, hb3⟩; have HT3 := Lib.hid (HT2.out.below hb3); clear hb3))
              go_ret
              exact ⟨false, L, rfl, HT3.out, fun h => (by cases h), fun _ => HD.out.2 hb⟩
      · have t4 : decide (2 * (i : Int) + 1 + 1 < (n : Int)) = false := by simp; omega
        have HMin : Hid (∀ k, 0 < k → k < n → par k = i → NL ltT L k (2 * i + 1)) := Lib.hid (fun k hk0 hkn hpk a b ha hb => by
          have hb' := HX.out
          rw [hb'] at hb
          cases hb
          obtain rfl : k = 2 * i + 1 := by simp only [par] at hpk; omega
          rw [hb'] at ha; cases ha; exact irr weakT _)
        have HL2 := Lib.hid (fun W (hT : Turned w W p m v L0 L (fun k => n ≤ k)) => Less_any p m v L (2 * i + 1) i x z W hT.hs HX.out HZ.out (by omega))
        have HS2 := Lib.hid (fun W (hT : Turned w W p m v L0 L (fun k => n ≤ k)) => HSw.out W L (2 * i + 1) hT (by omega) (by omega))
        have ej : ((2 * i + 1 : Nat) : Int) = 2 * (i : Int) + 1 := by omega
        rw [ej] at HL2 HS2
        have HEJ := Lib.hid ej
        clear ej
        cases h2 : ltT x z with
        | true =>
          simp only [h2] at HL2
          have HG2 := Lib.hid (HGo.out (2 * i + 1) x HX.out (by simp only [par]; omega) (by omega) (by omega) HMin.out h2)
          clear h2 HFin HGo
          go_wp2_with (first | (go_at_call 104; (with_reducible refine (HL2.out _ HT.out).mono ?_); rintro e w3 ⟨rfl, hb3⟩; have HT3 := Lib.hid (HT.out.below hb3); clear hb3) | (go_at_call 107; (with_reducible refine (HS2.out _ HT3.out).mono ?_); rintro e w4 ⟨rfl, hs4, hk4⟩; have HS4 := Lib.hid hs4; have HK4 := Lib.hid hk4; clear hs4 hk4))
          go_roundg (n - (2 * i + 1))
          case measure => have := HK.out; omega
          case rel => exact ⟨2 * i + 1, swapL L i (2 * i + 1), by rw [HEJ.out], rfl, by omega, by omega, HT3.out.swap HS4.out HK4.out (by omega) (by omega) (fun k hk => ⟨by omega, by omega⟩), HG2.out.1, fun e => by omega, fun _ => (by have e : par (2 * i + 1) = i := (by simp only [par]; omega); rw [e]; exact HG2.out.2.1)⟩
        | false =>
          simp only [h2] at HL2
          have HD := Lib.hid (HFin.out (2 * i + 1) x HX.out (by simp only [par]; omega) (by omega) (by omega) HMin.out h2)
          clear h2 HFin HGo
          by_cases hb : i0 < i
          · have t2 : decide ((i0 : Int) < (i : Int)) = true := by simp [hb]
            go_wp2_with (first | (go_at_call 104; (with_reducible refine (HL2.out _ HT.out).mono ?_); rintro e w3 ⟨rfl, hb3⟩; have HT3 := Lib.hid (HT.out.below hb3); clear hb3))
            go_ret
            exact ⟨true, L, rfl, HT3.out, fun _ => HD.out.1 hb, fun h => by cases h⟩
          · have t2 : decide ((i0 : Int) < (i : Int)) = false := by simp; omega
            go_wp2_with (first | (go_at_call 104; (with_reducible refine (HL2.out _ HT.out).mono ?_); rintro e w3 ⟨rfl, hb3⟩; have HT3 := Lib.hid (HT.out.below hb3); clear hb3))
            go_ret
            exact ⟨false, L, rfl, HT3.out, fun h => (by cases h), fun _ => HD.out.2 hb⟩
end Go.Proofs.Ytkigoihdmojpfaa
