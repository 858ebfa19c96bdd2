/- Contracts: slices.Equal over rows, trie.Same. -/
import Derived.Test.YtbacahoihkpkpaaDoorT24
import Derived.Deep.LoopGhost
namespace Go.Proofs.YtbacahoihkpkpaaDoor
open Go.RowKit Go.Shelf Go.Maps

def eqRel (w : World) (T1 T2 : List (Key × Int)) (n : Nat) (v13 : Value) (wr : World) : Prop :=
  ∃ i : Nat, n = T1.length - i ∧ i ≤ T1.length ∧ v13 = .int .i64 i ∧ (∀ j, j < i → T1[j]? = T2[j]?) ∧ Below w.heap.size w wr

set_option maxHeartbeats 4000000 in
set_option maxRecDepth 100000 in
theorem Equal_any (b1 b2 : Option Addr) (g1 o1 cap1 g2 o2 cap2 : Nat) (L1 L2 : List (Key × Int)) (w : World) (h1 : RL w b1 g1 o1 L1) (h2 : RL w b2 g2 o2 L2) (hl1 : L1.length < 1000000000) (_hc1 : L1.length ≤ cap1) (_hc2 : L2.length ≤ cap2)
    (hk1 : ∀ x ∈ L1, x.1.length ≤ 32) (hk2 : ∀ x ∈ L2, x.1.length ≤ 32) :
    Calls Tryd.prog 44 #[.slice b1 L1.length cap1, .slice b2 L2.length cap2] w fun e w' => e = .returned (.bool (decide (L1 = L2))) ∧ Below w.heap.size w w' := by
  have HS1 := Lib.hid h1
  have HS2 := Lib.hid h2
  have HK1 := Lib.hid hk1
  have HK2 := Lib.hid hk2
  clear h1 h2 hk1 hk2
  by_cases hl : L1.length = L2.length
  · have t1 : ((L1.length : Int) != (L2.length : Int)) = false := by simp [hl]
    have HLe := Lib.hid hl
    clear hl
    have HD := Lib.hid (show ∀ b, (b = decide (L1 = L2)) → decide (L1 = L2) = b from fun b h => h.symm)
    generalize hdd : decide (L1 = L2) = dd at *
    have HDD := Lib.hid hdd
    clear hdd HD
    go_enter Tryd.func44, Tryd.ntmps44
    go_wp2_with fail
    clear t1
    go_loopg [13] L1.length (eqRel w L1 L2)
    case atStart => exact ⟨0, rfl, by omega, rfl, fun j hj => by omega, Below.refl _ _⟩
    case round =>
      obtain ⟨i, hn, hil, rfl, hall, hbl⟩ := hrel
      have Hn := Lib.hid hn
      have HAll := Lib.hid hall
      have HBl := Lib.hid hbl
      clear hn hall
      by_cases hlt : i < L1.length
      · obtain ⟨⟨k1, v1⟩, hr⟩ : ∃ r, L1[i]? = some r := ⟨_, List.getElem?_eq_getElem hlt⟩
        obtain ⟨⟨k2, v2⟩, hx⟩ : ∃ x, L2[i]? = some x := ⟨_, List.getElem?_eq_getElem (by have := HLe.out; omega)⟩
        obtain ⟨eb1, z0, z1, z2⟩ := (HS1.out.below hbl).row i _ hr
        obtain ⟨eb2, y0, y1, y2⟩ := (HS2.out.below hbl).row i _ hx
        subst eb1 eb2
        have HR := Lib.hid hr
        have HX := Lib.hid hx
        have hlt2 : i < L2.length := by have := HLe.out; omega
        have i1 : (0 : Int) ≤ (i : Int) := by omega
        have i2 : (i : Int) < (L1.length : Int) := by omega
        have i3 : (i : Int) < (L2.length : Int) := by omega
        clear hr hx hbl
        dsimp only at z0 z1 z2 y0 y1 y2
        have a1 := HK1.out _ (List.mem_of_getElem? HR.out)
        by_cases he : k1 = k2 ∧ v1 = v2
        · obtain ⟨rfl, rfl⟩ := he
          go_upto_region 6 with fail
          refine wp_region_tail 8 (by kernel_rfl) (by kernel_rfl) ?_
          simp only [List.take_succ_cons, List.take_zero, List.drop_succ_cons, List.drop_zero]
          repeat still_step
          refine wpStill_nil ?_
          go_wp2_with fail
          go_roundg (L1.length - (i + 1))
          case measure => have := Hn.out; omega
          case rel => exact ⟨i + 1, rfl, by omega, by go_num, fun j hj => (by
            by_cases e : j = i
            · subst e; rw [HR.out, HX.out]
            · exact HAll.out j (by omega)), HBl.out.drew⟩
        · have HE := Lib.hid (show decide (L1 = L2) = false from decide_eq_false (fun e => he (by have h1 := HR.out; rw [e, HX.out] at h1; cases h1; exact ⟨rfl, rfl⟩)))
          by_cases f0 : ka k1 = ka k2
          · by_cases f1 : (k1.length : Int) = (k2.length : Int)
            · obtain rfl := ka_inj a1 f0 f1
              have f2 : v1 ≠ v2 := fun e => he ⟨rfl, e⟩
              have f3 : (v1 == v2) = false := by simpa using f2
              clear he
              go_upto_region 6 with fail
              refine wp_region_tail 8 (by kernel_rfl) (by kernel_rfl) ?_
              simp only [List.take_succ_cons, List.take_zero, List.drop_succ_cons, List.drop_zero]
              repeat still_step
              refine wpStill_nil ?_
              go_wp2_with fail
              go_ret
              exact ⟨ret_bool (by rw [← HDD.out, HE.out]), HBl.out.drew⟩
            · have f3 : ((k1.length : Int) == (k2.length : Int)) = false := by simpa using f1
              rw [f0] at z0
              clear he
              go_upto_region 6 with fail
              refine wp_region_tail 8 (by kernel_rfl) (by kernel_rfl) ?_
              simp only [List.take_succ_cons, List.take_zero, List.drop_succ_cons, List.drop_zero]
              repeat still_step
              refine wpStill_nil ?_
              go_wp2_with fail
              go_ret
              exact ⟨ret_bool (by rw [← HDD.out, HE.out]), HBl.out.drew⟩
          · have f3 : (ka k1 == ka k2) = false := by simpa using f0
            clear he
            go_upto_region 6 with fail
            refine wp_region_tail 8 (by kernel_rfl) (by kernel_rfl) ?_
            simp only [List.take_succ_cons, List.take_zero, List.drop_succ_cons, List.drop_zero]
            repeat still_step
            refine wpStill_nil ?_
            go_wp2_with fail
            go_ret
            exact ⟨ret_bool (by rw [← HDD.out, HE.out]), HBl.out.drew⟩
      · obtain rfl : i = L1.length := by omega
        have HE := Lib.hid (show decide (L1 = L2) = true from decide_eq_true (List.ext_getElem? fun j => by
          by_cases hj : j < L1.length
          · exact HAll.out j hj
          · rw [List.getElem?_eq_none (by omega), List.getElem?_eq_none (by have := HLe.out; omega)]))
        go_wp2_with fail
        go_ret
        exact ⟨ret_bool (by rw [← HDD.out, HE.out]), HBl.out⟩
  · have t1 : ((L1.length : Int) != (L2.length : Int)) = true := by simp; omega
    have HE := Lib.hid (show decide (L1 = L2) = false from decide_eq_false (fun e => hl (by rw [e])))
    clear hl
    go_enter Tryd.func44, Tryd.ntmps44
    go_wp2_with fail
    go_ret
    exact ⟨ret_bool (by rw [HE.out]), Below.refl _ _⟩

theorem rl_row {W : World} {B : Nat} {v : Value} {L : List (Key × Int)} (h : W.ownsRow B 74 3 v L.length (rCs L)) (h0 : 0 < W.heap.size) :
    ∃ (base : Option Addr) (g cap : Nat), v = .slice base L.length cap ∧ RL W base g 0 L ∧ L.length ≤ cap := by
  obtain ⟨base, g, cap, h1, h2, _, h3⟩ := rl_of_row h h0
  exact ⟨base, g, cap, h1, h2, h3⟩
theorem TrS.rowsLen {w : World} {q : Nat} {t : TT} (h : TrS w q t) : ∀ x ∈ t.rows, x.1.length ≤ 32 := fun x hx => h.keysLen x.1 (TT.rows_keys (v := x.2) hx)

set_option maxHeartbeats 2000000 in
set_option maxRecDepth 100000 in
theorem Same_any (q1 q2 : Nat) (t1 t2 : TT) (w : World) (h1 : TrS w q1 t1) (h2 : TrS w q2 t2) (hl1 : t1.rows.length < 1000000000) (hl2 : t2.rows.length < 1000000000) :
    Calls Tryd.prog 23 #[.pointer (some ⟨q1, 0, none⟩), .pointer (some ⟨q2, 0, none⟩)] w fun e w' => e = .returned (.bool (decide (t1.rows = t2.rows))) ∧ Below w.heap.size w w' := by
  have hw0 : 0 < w.heap.size := by have := h1.lt; omega
  have HN1 := Lib.hid (none_t q1 t1 w h1)
  have HN2 := Lib.hid (none_t q2 t2 w h2)
  have HR1 := Lib.hid (rows_any q1 t1 w h1 (by omega))
  have HT2 := Lib.hid h2
  have HK1 := Lib.hid h1.rowsLen
  have HK2 := Lib.hid h2.rowsLen
  clear h1 h2
  go_enter Tryd.func23, Tryd.ntmps23
  go_wp2_with (first
    | (go_at_call 34; with_reducible refine HN1.out.mono ?_; rintro e w' ⟨rfl, rfl⟩)
    | (go_at_call 34; with_reducible refine HN2.out.mono ?_; rintro e w' ⟨rfl, rfl⟩)
    | (go_at_call 45; with_reducible refine HR1.out.mono ?_; rintro e w2 ⟨v1, rfl, hrow, hb⟩; have HB1 := Lib.hid hb; have HRow1 := Lib.hid hrow; have HR2 := Lib.hid (rows_any q2 t2 w2 (HT2.out.below hb) (by omega)); clear hrow hb)
    | (go_at_call 45; with_reducible refine HR2.out.mono ?_; rintro e w3 ⟨v2, rfl, hrow, hb⟩; have HB2 := Lib.hid hb; have z1 := HB1.out.size; have z2 := hb.size
       obtain ⟨c1, g1, p1, rfl, hrl1, hc1⟩ := rl_row (row_below HRow1.out hb) (by omega)
       obtain ⟨c2, g2, p2, rfl, hrl2, hc2⟩ := rl_row hrow (by omega)
       have HEq := Lib.hid (Equal_any c1 c2 g1 0 p1 g2 0 p2 t1.rows t2.rows w3 hrl1 hrl2 hl1 hc1 hc2 HK1.out HK2.out)
       clear hrow hb hrl1 hrl2)
    | (go_at_call 44; with_reducible refine HEq.out.mono ?_; rintro e w4 ⟨rfl, hb4⟩)
    | fail)
  go_ret
  exact ⟨rfl, (bthen HB1.out (bthen HB2.out hb4))⟩

set_option maxHeartbeats 2000000 in
theorem Same_nil (w : World) : Calls Tryd.prog 23 #[.pointer none, .pointer none] w fun e w' => e = .returned (.bool true) ∧ w = w' := by
  go_enter Tryd.func23, Tryd.ntmps23
  go_wp2_with (go_at_call 34; with_reducible refine (none_n _).mono ?_; rintro e w' ⟨rfl, rfl⟩)
  go_ret
  exact ⟨rfl, rfl⟩
set_option maxHeartbeats 2000000 in
theorem Same_half (q : Nat) (t : TT) (w : World) (h : TrS w q t) : Calls Tryd.prog 23 #[.pointer (some ⟨q, 0, none⟩), .pointer none] w fun e w' => e = .returned (.bool false) ∧ w = w' := by
  have HN1 := Lib.hid (none_t q t w h)
  clear h
  go_enter Tryd.func23, Tryd.ntmps23
  go_wp2_with (first
    | (go_at_call 34; with_reducible refine HN1.out.mono ?_; rintro e w' ⟨rfl, rfl⟩)
    | (go_at_call 34; with_reducible refine (none_n _).mono ?_; rintro e w' ⟨rfl, rfl⟩)
    | fail)
  go_ret
  exact ⟨rfl, rfl⟩
end Go.Proofs.YtbacahoihkpkpaaDoor
