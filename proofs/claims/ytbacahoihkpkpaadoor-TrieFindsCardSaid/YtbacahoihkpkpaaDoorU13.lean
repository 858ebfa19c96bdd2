/- The reference: Above. -/
import Derived.Test.YtbacahoihkpkpaaDoorU5
namespace Go.Proofs.YtbacahoihkpkpaaDoor
open Go.RowKit Go.Shelf Go.Maps
open Go.Sort (grow)

def abRel (W0 : World) (L : List (Key × Int)) (p : Key) (m : Nat) (v5 v6 : Value) (wr : World) : Prop :=
  ∃ n : Nat, m = p.length + 1 - n ∧ n ≤ p.length + 1 ∧ v6 = .int .i64 n ∧ wr.ownsRow W0.heap.size 37 3 v5 (abvR L p n).length (rCs (abvR L p n)) ∧ Below W0.heap.size W0 wr
theorem abvR_len (L : List (Key × Int)) (p : Key) (n : Nat) : (abvR L p n).length ≤ L.length := List.length_filter_le _ _
/-- the two boxes of Above -/
structure OB (w W : World) (v : Value) (a n : Int) : Prop where
  b0 : OneB W w.heap.size v 31
  b1 : PBox W (w.heap.size + 1) a n
  bl : Below w.heap.size w W
theorem OB.start (w : World) (v : Value) (a n : Int) : OB w ((w.alloc (.cells #[v] 31)).alloc (.cells #[.int .u32 a, .int .i64 n] 26)) v a n := by
  refine ⟨(OneB.new w v 31).alloc _, ?_, ((Below.refl _ _).alloc (Nat.le_refl _) _).alloc (by simp) _⟩
  have := PBox.new (w.alloc (.cells #[v] 31)) a n
  simpa using this
theorem OB.below {w W W' : World} {v : Value} {a n : Int} (h : OB w W v a n) (hb : Below W.heap.size W W') : OB w W' v a n := ⟨h.b0.below hb, h.b1.below hb, bthen h.bl hb⟩

theorem rAt_g (v : Value) (g : Nat) (L : List (Key × Int)) (p : Key) (n : Nat) (r : Int) (hn : n ≤ p.length) (hp : p.length ≤ 32) (hl : L.length ≤ 1000) (hi : atV (idxR L (p.take n)) = r) (W : World) (hS : RT W g v L) (d : Nat) (os : Array Obj) :
    Calls Tryd.prog 29 #[v, .agg #[.int .u32 (andM (ka p) n), .int .i64 n]] (grow (redrawn W d) os) fun e w' => e = .returned (.int .i64 r) ∧ ∃ q : Regrown, w' = grow (redrawn W q.d) q.os := by
  have hak := ka_take hp hn
  have h1 := rAt_any v g L (andM (ka p) n) n (grow (redrawn W d) os) (hS.below (below_regrown W d os)) (by omega)
  have e1 := atI_key (L := L) (p := p.take n) (by rw [hak.2]; omega)
  rw [← hak.1, hak.2] at e1
  rw [e1, hi] at h1
  exact Calls.regrown_of h1
theorem rOf_g (p : Key) (n : Nat) (hn : n ≤ 32) (W : World) (d : Nat) (os : Array Obj) :
    Calls Tryd.prog 41 #[.int .u32 (ka p), .int .i64 n] (grow (redrawn W d) os) fun e w' => e = .returned (.agg #[.int .u32 (andM (ka p) n), .int .i64 n]) ∧ ∃ q : Regrown, w' = grow (redrawn W q.d) q.os :=
  Calls.regrown_of (rOf_any (ka p) n _ (ka_0 p) (ka_1 p) hn)

set_option maxRecDepth 100000 in
set_option maxHeartbeats 4000000 in
theorem rAbove_arg (v : Value) (g : Nat) (L : List (Key × Int)) (a n : Int) (w : World) (hS : RT w g v L) (a0 : 0 ≤ a) (a1 : a < 4294967296) (hr : rightB a n = false) :
    Calls Tryd.prog 16 #[v, .agg #[.int .u32 a, .int .i64 n]] w fun e w' => e = .returned (.slice none 0 0) ∧ Below w.heap.size w w' := by
  obtain ⟨base, cap, rfl, _, _⟩ := hS.ex
  have HO := Lib.hid (OB.start w (.slice base L.length cap) a n)
  have HK := Lib.hid (fun W => rRight_any a n W a0 a1)
  rw [hr] at HK
  have d0 := HO.out.b1.c0
  have d1 := HO.out.b1.c1
  clear hr hS
  go_enter Tryd.func16, Tryd.ntmps16
  go_upto_block 0 with fail
  generalize ((w.alloc (.cells #[.slice base L.length cap] 31)).alloc (.cells #[.int .u32 a, .int .i64 n] 26)) = W0 at *
  go_wp2_with fail
  refine wp_loop_rounds 1 ?_
  rw [rounds_succ]
  by_cases h0 : 0 ≤ n
  · have t1 : decide (0 ≤ n) = true := by simpa using h0
    go_wp2_with (go_at_call 40; with_reducible refine (HK.out _).mono ?_; rintro e w1 ⟨rfl, hb⟩; have HB := Lib.hid hb; clear hb)
    go_ret
    exact ⟨rfl, bthen HO.out.bl HB.out⟩
  · have t1 : decide (0 ≤ n) = false := by simpa using h0
    go_wp2_with fail
    go_ret
    exact ⟨rfl, HO.out.bl⟩

set_option maxRecDepth 100000 in
set_option maxHeartbeats 4000000 in
theorem rAbove_key (v : Value) (g : Nat) (L : List (Key × Int)) (p : Key) (w : World) (hS : RT w g v L) (hO : TT.OrdR L) (hp : p.length ≤ 32) (hl : L.length ≤ 1000) :
    Calls Tryd.prog 16 #[v, .agg #[.int .u32 (ka p), .int .i64 p.length]] w fun e w' => ∃ v', e = .returned v' ∧ RSl w' v' (L.filter fun x => decide (x.1 <+: p)) ∧ Below w.heap.size w w' := by
  have HS0 := Lib.hid hS
  obtain ⟨base, cap, rfl, hrl, hcap⟩ := hS.ex
  have HOb := Lib.hid (OB.start w (.slice base L.length cap) (ka p) p.length)
  have HK := Lib.hid (fun W => rRight_any (ka p) p.length W (ka_0 p) (ka_1 p))
  rw [ka_right hp] at HK
  have HRl := Lib.hid hrl
  have HOr := Lib.hid hO
  obtain ⟨i0, hii, hz0, hz1, hz2⟩ := info_parts info37
  clear hS hrl hO
  go_enter Tryd.func16, Tryd.ntmps16
  go_upto_block 0 with fail
  generalize ((w.alloc (.cells #[.slice base L.length cap] 31)).alloc (.cells #[.int .u32 (ka p), .int .i64 p.length] 26)) = W0 at *
  go_wp2_with fail
  go_loopg [5, 6] (p.length + 1) (abRel W0 L p)
  case atStart => exact ⟨0, rfl, by omega, rfl, by rw [abvR_zero]; exact World.ownsRow_nil _ _ _ _, Below.refl _ _⟩
  case round =>
    obtain ⟨n, hn, hnl, rfl, hrow, hbl⟩ := hrel
    have Hn := Lib.hid hn
    have HRow := Lib.hid hrow
    have HBl := Lib.hid hbl
    have hob := HOb.out.below hbl
    have c0 := hob.b1.c0
    have c1 := hob.b1.c1
    clear hn hrow hbl hob
    by_cases hlt : n ≤ p.length
    · have t1 : decide ((n : Int) ≤ (p.length : Int)) = true := by (simp; omega)
      go_upto_region 5 with (go_at_call 40; with_reducible refine (HK.out _).mono ?_; rintro e w1 ⟨rfl, hb⟩; have HB := Lib.hid hb; clear hb)
      have HBW := Lib.hid (bthen HBl.out HB.out)
      have hob := HOb.out.below HBW.out
      have HObW := Lib.hid hob
      clear c0 c1 t1
      have y0 := cell_regrown hob.b0.c
      have y1 := cell_regrown hob.b1.c0
      have HOf := Lib.hid (fun d os => rOf_g p n (by omega) w1 d os)
      cases hi : idxR L (p.take n) with
      | none =>
        have HA1 := Lib.hid (fun d os => rAt_g _ g L p n (-1 : Int) hlt hp hl (by rw [hi]; rfl) w1 (HS0.out.below hob.bl) d os)
        have HAb := Lib.hid (abvR_succ_none (p := p) (n := n) (idxR_none hi))
        clear hi hob
        refine wp_region_quiet_below (by kernel_rfl) (by kernel_rfl) ?_
        repeat (first | go_big_quiet_step (first | with_reducible exact HOf.out _ _ | with_reducible exact HA1.out _ _) | quiet_step (first | with_reducible exact HOf.out _ _ | with_reducible exact HA1.out _ _))
        refine wpQuiet_nil ?_
        intro _ hw'
        obtain ⟨⟨dq, osq⟩, hw''⟩ := hw'
        subst hw''
        go_wp2_with fail
        go_roundg (p.length + 1 - (n + 1))
        case measure => have := Hn.out; omega
        case rel => exact ⟨n + 1, rfl, by omega, by go_num, by rw [HAb.out]; exact row_below HRow.out (bthen HB.out (below_regrown _ _ _)), bthen HBW.out (below_regrown _ _ _)⟩
      | some i =>
        obtain ⟨u, hx⟩ := idxR_some hi
        have hil := (List.getElem?_eq_some_iff.1 hx).1
        have HA1 := Lib.hid (fun d os => rAt_g _ g L p n (i : Int) hlt hp hl (by rw [hi]; rfl) w1 (HS0.out.below hob.bl) d os)
        have HAb := Lib.hid (abvR_succ_some HOr.out hp hlt hx)
        have i1 : (0 : Int) ≤ (i : Int) := by omega
        have i2 : (i : Int) < (L.length : Int) := by omega
        have HX := Lib.hid hx
        have HRc := Lib.hid (show rCs [(p.take n, u)] = [.int .u32 (ka (p.take n)), .int .i64 n, .int .i64 u] by simp [rCs, rC, Nat.min_eq_left hlt])
        clear hi hob hx
        refine wp_region_quiet_below (by kernel_rfl) (by kernel_rfl) ?_
        repeat (first | go_big_quiet_step (first | with_reducible exact HOf.out _ _ | with_reducible exact HA1.out _ _) | quiet_step (first | with_reducible exact HOf.out _ _ | with_reducible exact HA1.out _ _))
        refine wpQuiet_nil ?_
        intro _ hw'
        obtain ⟨⟨dq, osq⟩, hw''⟩ := hw'
        subst hw''
        have HBr := Lib.hid (bthen HB.out (below_regrown w1 dq osq))
        have HBR := Lib.hid (bthen HBW.out (below_regrown w1 dq osq))
        clear y0 y1
        generalize grow (redrawn w1 dq) osq = V at *
        have hobV := HOb.out.below HBR.out
        have d0 := hobV.b0.c
        obtain ⟨rfl, z0, z1, z2⟩ := (HRl.out.below hobV.bl).row i _ HX.out
        simp only [Nat.zero_add] at z0 z1 z2
        have hrowV := row_below HRow.out HBr.out
        have HRowV := Lib.hid hrowV
        have hlen := abvR_len L p n
        have hVs := hobV.bl.size
        clear hobV hrowV
        go_wp2_with (at_builtin; refine wpList_append_own _ rfl _ _ 29 rfl W0.heap.size 37 i0 (.agg #[.int .u32 0, .int .i64 0, .int .i64 0]) 3 24 Tryd.underlying29 hii hz0 hz1 hz2 rfl (by decide) u5 _ _ rfl (HRowV.out.alloc _) ⟨V.heap.size, 0, none⟩ 1 1 [.int .u32 (ka (p.take n)), .int .i64 n, .int .i64 u] rfl rfl (cells_three_new _ _ _ _ _) (by simp [Value.oneCell']) (by unfold maxLen; omega) (by omega) (by have := HBR.out.size; simp; omega) ?_; intro v' w5 hown' hgrow _; have HOw := Lib.hid hown'; have HGr := Lib.hid hgrow; clear hown' hgrow)
        go_roundg (p.length + 1 - (n + 1))
        case measure => have := Hn.out; omega
        case rel => exact ⟨n + 1, rfl, by omega, by go_num, by rw [HAb.out, rCs_app, List.length_append, HRc.out]; exact HOw.out, (HBR.out.alloc HBR.out.size _).grown HGr.out (by have := HBR.out.size; simp; omega) (fun k e => (own_ge HRowV.out e).1)⟩
    · have e : n = p.length + 1 := by omega
      subst e
      have t1 : decide (((p.length + 1 : Nat) : Int) ≤ (p.length : Int)) = false := by (simp; omega)
      have t2 : decide ((p.length : Int) + 1 ≤ (p.length : Int)) = false := by (simp; omega)
      have hrow := HRow.out
      rw [abvR_all] at hrow
      go_wp2_with fail
      go_ret
      obtain ⟨base2, g2, cap2, h1, h2, _, h4⟩ := rl_of_row hrow (by have := HBl.out.size; have := HOb.out.b1.lt; omega)
      exact ⟨_, rfl, ⟨base2, g2, 0, cap2, h1, h2, h4⟩, bthen HOb.out.bl HBl.out⟩
end Go.Proofs.YtbacahoihkpkpaaDoor
