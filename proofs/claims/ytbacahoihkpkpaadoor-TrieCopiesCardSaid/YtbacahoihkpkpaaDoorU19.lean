/- The reference: All. -/
import Derived.Test.YtbacahoihkpkpaaDoorU18
namespace Go.Proofs.YtbacahoihkpkpaaDoor
open Go.RowKit Go.Shelf Go.Maps

theorem rCommon_key (x y : Key) (w : World) (hx : x.length ≤ 32) (hy : y.length ≤ 32) :
    Calls Tryd.prog 71 #[.agg #[.int .u32 (ka x), .int .i64 x.length], .agg #[.int .u32 (ka y), .int .i64 y.length]] w fun e w' => e = .returned (.agg #[.int .u32 (ka (lcp x y)), .int .i64 (lcp x y).length]) ∧ Below w.heap.size w w' := by
  refine (rCommon_any (ka x) x.length (ka y) y.length w (ka_0 x) (ka_1 x) (ka_0 y) (ka_1 y) (by omega) (by omega) (by omega)).mono fun e w' ⟨⟨n, h1, h2, h3⟩, h4⟩ => ⟨?_, h4⟩
  have a1 := h1.1
  have a2 := h1.2
  have hnx : n ≤ x.length := by omega
  have hny : n ≤ y.length := by omega
  have hb : ∀ j, j < n → x.getD j false = y.getD j false := fun j hj => by
    have := h1.3 j hj
    rwa [ka_bit x j (by omega), ka_bit y j (by omega)] at this
  have hl : x.take n = lcp x y := lcp_take x y n hnx hny hb (by
    rcases h2 with h | h | h
    · exact .inl (by omega)
    · exact .inr (.inl (by omega))
    · by_cases hn : n < 32
      · rw [ka_bit x n hn, ka_bit y n hn] at h
        exact .inr (.inr h)
      · exact .inl (by omega))
  obtain ⟨k1, k2⟩ := ka_take hx hnx
  rw [h3, k1, ← hl, k2]
theorem comK_len (L : List (Key × Int)) (i k : Nat) : (comK L i k).length = (comL L i).length + k := by simp [comK]
theorem comL_len (L : List (Key × Int)) : ∀ i, i ≤ 200 → (comL L i).length ≤ i * 200
  | 0, _ => by simp [comL]
  | i + 1, h => by
    have := comL_len L i (by omega)
    rw [comL_succ, comK_len]
    omega
theorem comL_key {L : List (Key × Int)} {i : Nat} (hL : ∀ x ∈ L, x.1.length ≤ 32) : ∀ x ∈ comL L i, x.length ≤ 32 := by
  intro x hx
  unfold comL at hx
  obtain ⟨a, _, hx⟩ := List.mem_flatMap.1 hx
  obtain ⟨b, _, rfl⟩ := List.mem_map.1 hx
  have h1 := (lcp_left (L.getD a ([], 0)).1 (L.getD b ([], 0)).1).length_le
  have h2 : (L.getD a ([], 0)).1.length ≤ 32 := by
    rw [List.getD_eq_getElem?_getD]
    cases h : L[a]? with
    | none => simp
    | some y => simpa using hL y (List.mem_of_getElem? h)
  omega
theorem cells_two_new (w : World) (a b : Value) (t : TypeId) : ∀ (j : Nat) (u : Value), [a, b][j]? = some u → (w.alloc (.cells #[a, b] t)).cell? ((⟨w.heap.size, 0, none⟩ : Addr).add j) = some u := by
  intro j u hj
  obtain ⟨ad, e, hc⟩ := (src_new w #[a, b] t 2 rfl).2 j u hj
  cases e
  exact hc

def alRel (W0 : World) (L : List (Key × Int)) (m : Nat) (v3 v4 : Value) (wr : World) : Prop :=
  ∃ i : Nat, m = L.length - i ∧ i ≤ L.length ∧ v4 = .int .i64 i ∧ wr.ownsRow W0.heap.size 26 2 v3 (comL L i).length (kCs (comL L i)) ∧ Below W0.heap.size W0 wr
def al2Rel (W0 : World) (L : List (Key × Int)) (i m : Nat) (v3 v5 : Value) (wr : World) : Prop :=
  ∃ k : Nat, m = i + 1 - k ∧ k ≤ i + 1 ∧ v5 = .int .i64 k ∧ wr.ownsRow W0.heap.size 26 2 v3 (comK L i k).length (kCs (comK L i k)) ∧ Below W0.heap.size W0 wr

set_option maxRecDepth 100000 in
set_option maxHeartbeats 8000000 in
theorem rAll_any (v : Value) (g : Nat) (t : TT) (w : World) (hS : RT w g v t.rows) (hw : t.WF) (hl : t.rows.length ≤ 200) :
    Calls Tryd.prog 53 #[v] w fun e w' => ∃ v', e = .returned v' ∧ KSl w' v' t.keys ∧ Below w.heap.size w w' := by
  have HW := Lib.hid hw
  have HLk := Lib.hid (show ∀ x ∈ t.rows, x.1.length ≤ 32 from hw.lenR)
  have HNe := Lib.hid (fun M (hO : OrdK M) hm => nodes_eq hw (M := M) hO hm)
  obtain ⟨base, cap, rfl, hrl, hcap⟩ := hS.ex
  generalize t.rows = L at *
  generalize t.keys = KK at *
  have b0 : Below w.heap.size w (w.alloc (.cells #[.slice base L.length cap] 31)) := (Below.refl _ w).alloc (Nat.le_refl _) _
  have HO := Lib.hid (OneB.new w (.slice base L.length cap) 31)
  have HRl := Lib.hid (hrl.below b0)
  have HB0 := Lib.hid b0
  obtain ⟨i0, hii, hz0, hz1, hz2⟩ := info_parts info26
  clear hS hrl b0 hw HW
  go_enter Tryd.func53, Tryd.ntmps53
  go_upto_block 0 with fail
  generalize (w.alloc (.cells #[.slice base L.length cap] 31)) = W0 at *
  go_cut [3] (fun v3 wx => wx.ownsRow W0.heap.size 26 2 v3 (comL L L.length).length (kCs (comL L L.length)) ∧ Below W0.heap.size W0 wx)
  case first => as_aux_lemma =>
    go_wp2_with fail
    go_loopg [3, 4] L.length (alRel W0 L)
    case atStart => exact ⟨0, rfl, by omega, rfl, by simpa [comL, kCs] using World.ownsRow_nil _ _ _ _, Below.refl _ _⟩
    case round =>
      obtain ⟨i, hn, hil, rfl, hrow, hbl⟩ := hrel
      have Hn := Lib.hid hn
      have HRow := Lib.hid hrow
      have HBl := Lib.hid hbl
      have c0 := (HO.out.below hbl).c
      clear hn hrow hbl
      by_cases hlt : i < L.length
      · obtain ⟨x, hx⟩ : ∃ x, L[i]? = some x := ⟨_, List.getElem?_eq_getElem hlt⟩
        have hgx : L.getD i ([], 0) = x := by rw [List.getD_eq_getElem?_getD, hx]; rfl
        have HX := Lib.hid hx
        have HGx := Lib.hid hgx
        have HXk := Lib.hid (HLk.out x (List.mem_of_getElem? hx))
        have i1 : (0 : Int) ≤ (i : Int) := by omega
        have i2 : (i : Int) < (L.length : Int) := by omega
        clear hx hgx
        go_upto_block 1 with fail
        clear c0
        go_cut [3] (fun v3 wx => wx.ownsRow W0.heap.size 26 2 v3 (comL L (i + 1)).length (kCs (comL L (i + 1))) ∧ Below W0.heap.size W0 wx)
        case first => as_aux_lemma =>
          go_wp2_with fail
          go_loopg [3, 5] (i + 1) (al2Rel W0 L i)
          case atStart => exact ⟨0, rfl, by omega, rfl, by rw [comK_zero]; exact HRow.out, HBl.out⟩
          case round =>
            obtain ⟨k, hnk, hkl, rfl, hrow2, hbl2⟩ := hrel
            have Hnk := Lib.hid hnk
            have HRow2 := Lib.hid hrow2
            have HBl2 := Lib.hid hbl2
            clear hnk hrow2 hbl2
            by_cases hkt : k ≤ i
            · obtain ⟨y, hy⟩ : ∃ y, L[k]? = some y := ⟨_, List.getElem?_eq_getElem (by omega)⟩
              have hgy : L.getD k ([], 0) = y := by rw [List.getD_eq_getElem?_getD, hy]; rfl
              have HYk := Lib.hid (HLk.out y (List.mem_of_getElem? hy))
              have HKs := Lib.hid (show comK L i (k + 1) = comK L i k ++ [lcp x.1 y.1] by rw [comK_succ, HGx.out, hgy])
              obtain ⟨rfl, x0, x1, _⟩ := HRl.out.row i x HX.out
              obtain ⟨_, y0, y1, _⟩ := HRl.out.row k y hy
              simp only [Nat.zero_add] at x0 x1 y0 y1
              have HCell := Lib.hid (show ∀ W', Below W0.heap.size W0 W' → W'.cell? ⟨w.heap.size, 0, none⟩ = some (.slice (some ⟨g, 0, none⟩) L.length cap) ∧ W'.cell? ⟨g, i * 3, none⟩ = some (.int .u32 (ka x.1)) ∧ W'.cell? ⟨g, i * 3 + 1, none⟩ = some (.int .i64 x.1.length) ∧ W'.cell? ⟨g, k * 3, none⟩ = some (.int .u32 (ka y.1)) ∧ W'.cell? ⟨g, k * 3 + 1, none⟩ = some (.int .i64 y.1.length) from fun W' h =>
                ⟨(HO.out.below h).c, cellL h x0, cellL h x1, cellL h y0, cellL h y1⟩)
              have k1 : (0 : Int) ≤ (k : Int) := by omega
              have k2 : (k : Int) < (L.length : Int) := by omega
              have k3 : decide ((k : Int) ≤ (i : Int)) = true := by (simp; omega)
              have hcl : (comK L i k).length ≤ 100000 := by have := comL_len L i (by omega); rw [comK_len]; omega
              have hw0 : w.heap.size < W0.heap.size := HO.out.lt
              have hg0 : g < W0.heap.size := HRl.out.lt
              clear hy hgy x0 x1 y0 y1
              go_upto_region 8 with fail
              obtain ⟨c0, c1, c2, c3, c4⟩ := HCell.out _ HBl2.out
              have hz := HBl2.out.size
              go_region_held3 (fun w' => w'.cell? ⟨w.heap.size, 0, none⟩ = some (.slice (some ⟨g, 0, none⟩) L.length cap) ∧ w'.cell? ⟨g, i * 3, none⟩ = some (.int .u32 (ka x.1)) ∧ w'.cell? ⟨g, i * 3 + 1, none⟩ = some (.int .i64 x.1.length) ∧ w'.cell? ⟨g, k * 3, none⟩ = some (.int .u32 (ka y.1)) ∧ w'.cell? ⟨g, k * 3 + 1, none⟩ = some (.int .i64 y.1.length))
                (first | exact ⟨c0, c1, c2, c3, c4⟩ | go_keep)
                (first
                  | (go_at_call 71; with_reducible refine (rCommon_key x.1 y.1 _ HXk.out HYk.out).mono ?_; rintro e w2 ⟨rfl, hb⟩; have HB2 := Lib.hid (bthen HBl2.out (bthen (Below.refl _ _).drew hb)); have HRow3 := Lib.hid (row_below HRow2.out (bthen (Below.refl _ _).drew hb)); clear c0 c1 c2 c3 c4 hb; obtain ⟨c0, c1, c2, c3, c4⟩ := HCell.out _ HB2.out; have hzz := HB2.out.size)
                  | (refine step_append_lies _ (by rfl) _ _ _ (by rfl) W0.heap.size 26 i0 _ 2 16 Tryd.underlying50 hii hz0 hz1 hz2 rfl (by omega) u3 _ (kCs (comK L i k)) (by rfl) (HRow3.out.alloc _) ⟨w2.heap.size, 0, none⟩ 1 1 (kC (lcp x.1 y.1)) (by rfl) (by rfl) (cells_two_new _ _ _ _) (by simp [kC, Value.oneCell']) (by omega) (by unfold maxLen; omega) (by omega) (by have := HB2.out.size; simp; omega) (w2.heap.size + 1) (by simp) ?_; intro gg cap1 w3 hown1 hgrow hat hlt3; have hB3 := (HB2.out.alloc HB2.out.size (.cells #[.int .u32 (ka (lcp x.1 y.1)), .int .i64 (lcp x.1 y.1).length] 26)).grown hgrow (by have := HB2.out.size; simp; omega) (fun kk e => (own_ge HRow3.out e).1); have HB3 := Lib.hid hB3; have HOw := Lib.hid hown1; clear c0 c1 c2 c3 c4 hown1 hgrow hat hlt3 hB3; obtain ⟨c0, c1, c2, c3, c4⟩ := HCell.out _ HB3.out))
              all_goals
                go_wp2_with fail
                go_roundg (i + 1 - (k + 1))
                case measure => have := Hnk.out; omega
                case rel => exact ⟨k + 1, rfl, by omega, by go_num, by rw [HKs.out, kCs_app, List.length_append]; simpa [kCs] using HOw.out, HB3.out⟩
            · have e : k = i + 1 := by omega
              subst e
              have k3 : decide (((i + 1 : Nat) : Int) ≤ (i : Int)) = false := by (simp; omega)
              have k4 : decide ((i : Int) + 1 ≤ (i : Int)) = false := by (simp; omega)
              go_wp2_with fail
              go_meet
              exact ⟨by rw [comL_succ]; exact HRow2.out, HBl2.out⟩
        case rest =>
          obtain ⟨hrow3, hbl3⟩ := hcut
          have HRow3 := Lib.hid hrow3
          have HBl3 := Lib.hid hbl3
          clear hrow3 hbl3
          go_wp2_with fail
          go_roundg (L.length - (i + 1))
          case measure => have := Hn.out; omega
          case rel => exact ⟨i + 1, rfl, by omega, by go_num, HRow3.out, HBl3.out⟩
      · obtain rfl : i = L.length := by omega
        go_wp2_with fail
        go_meet
        exact ⟨HRow.out, HBl.out⟩
  case rest =>
    obtain ⟨hrow, hbl⟩ := hcut
    obtain ⟨base2, g2, cap2, rfl, hkl, hcap2, _⟩ := kl_of_row hrow (by have := HO.out.lt; have := hbl.size; omega)
    have HSo := Lib.hid (rSort_any base2 g2 cap2 (comL L L.length) wc hkl (by have := comL_len L L.length hl; omega) (comL_key HLk.out))
    have HBl := Lib.hid hbl
    clear hrow hbl hkl
    go_wp2_with (go_at_call 72; with_reducible refine HSo.out.mono ?_; rintro e w5 ⟨v5, M, rfl, hks, hO, hm, hb⟩; have HKs := Lib.hid hks; have HOm := Lib.hid hO; have HMm := Lib.hid hm; have HB5 := Lib.hid hb; clear hks hO hm hb)
    go_ret
    have e := HNe.out M HOm.out HMm.out
    exact ⟨_, rfl, by rw [← e]; exact HKs.out, bthen HB0.out (bthen HBl.out HB5.out)⟩
end Go.Proofs.YtbacahoihkpkpaaDoor
