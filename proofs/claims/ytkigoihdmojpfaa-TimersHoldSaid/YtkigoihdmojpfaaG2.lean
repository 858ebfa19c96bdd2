/- The reference: Due, without. -/
import Derived.Test.YtkigoihdmojpfaaG1
import Derived.Test.YtkigoihdmojpfaaR2
import Derived.Test.YtkigoihdmojpfaaU0
import Derived.Deep.LoopGhost
import Derived.Deep.RegionHeld3
import Derived.Deep.DeepCutAuto
import Derived.Lib.QuietBelow
import Derived.Outline
namespace Go.Proofs.Ytkigoihdmojpfaa
open Go.RowKit
open Go.Sort (grow)

/-- the boxes of a list and a timer -/
structure B2 (w W : World) (v : Value) (k a n : Int) : Prop where
  b0 : OneB W w.heap.size v 37
  b1 : TBox W (w.heap.size + 1) k a n
  bl : Below w.heap.size w W
theorem B2.start (w : World) (v : Value) (k a n : Int) : B2 w ((w.alloc (.cells #[v] 37)).alloc (.cells #[.int .i64 k, .int .u32 a, .int .i64 n] 29)) v k a n := by
  refine ⟨(OneB.new w v 37).alloc _, ?_, ((Below.refl _ _).alloc (Nat.le_refl _) _).alloc (by simp) _⟩
  have := TBox.new (w.alloc (.cells #[v] 37)) k a n
  simpa using this
theorem B2.below {w W W' : World} {v : Value} {k a n : Int} (h : B2 w W v k a n) (hb : Below W.heap.size W W') : B2 w W' v k a n := ⟨h.b0.below hb, h.b1.below hb, bthen h.bl hb⟩
theorem B2.sz {w W : World} {v : Value} {k a n : Int} (h : B2 w W v k a n) : w.heap.size + 1 < W.heap.size := h.b1.lt

theorem sameK_at {k a n : Int} {x : TR} (b : Bool) (h : sameK k a n x = b) : (x.kind == k && (x.addr == a && x.len == n)) = b := h

theorem dueS_at {L : List TR} {k a n : Int} {i : Nat} {x : TR} (h0 : ∀ j, j < i → ∀ y, L[j]? = some y → sameK k a n y = false) (hx : L[i]? = some x) (hs : sameK k a n x = true) : dueS L k a n = (x.due, true) := by
  unfold dueS
  have : L.find? (sameK k a n) = some x := by
    rw [List.find?_eq_some_iff_getElem]
    obtain ⟨hi, e⟩ := List.getElem?_eq_some_iff.1 hx
    exact ⟨hs, i, hi, e, fun j hj => by rw [h0 j hj _ (List.getElem?_eq_getElem (by omega))]; rfl⟩
  rw [this]
theorem dueS_end {L : List TR} {k a n : Int} (h0 : ∀ j, j < L.length → ∀ y, L[j]? = some y → sameK k a n y = false) : dueS L k a n = (0, false) := by
  unfold dueS
  rw [List.find?_eq_none.2 (fun x hx => by
    obtain ⟨i, hi, e⟩ := List.mem_iff_getElem.1 hx
    rw [h0 i hi x (by rw [List.getElem?_eq_getElem hi, e])]
    simp)]

def dueRel (w0 : World) (k a n : Int) (L : List TR) (m : Nat) (v : Value) (wr : World) : Prop :=
  ∃ i : Nat, m = L.length - i ∧ i ≤ L.length ∧ v = .int .i64 i ∧ (∀ j, j < i → ∀ x, L[j]? = some x → sameK k a n x = false) ∧ Below w0.heap.size w0 wr

set_option maxRecDepth 100000 in
set_option maxHeartbeats 4000000 in
theorem rDue_any (v : Value) (g : Nat) (L : List TR) (k a n : Int) (w : World) (hS : RT w g v L) (hl : L.length ≤ 1000000) :
    Calls Try.prog 14 #[v, keyV k a n] w fun e w' => e = .returned (.tuple #[.int .i64 (dueS L k a n).1, .bool (dueS L k a n).2]) ∧ Below w.heap.size w w' := by
  obtain ⟨base, cap, rfl, hS, hcap⟩ := hS.ex
  have hb2 := B2.start w (.slice base L.length cap) k a n
  have HRl := Lib.hid (hS.below hb2.bl)
  have HB2 := Lib.hid hb2
  unfold keyV
  clear hb2 hS
  go_enter Try.func14, Try.ntmps14
  go_wp2_with fail
  generalize ((w.alloc (.cells #[.slice base L.length cap] 37)).alloc (.cells #[.int .i64 k, .int .u32 a, .int .i64 n] 29)) = w2 at *
  go_loopg [6] L.length (dueRel w2 k a n L)
  case atStart => exact ⟨0, rfl, by omega, rfl, fun j hj => by omega, Below.refl _ _⟩
  case round =>
    obtain ⟨i, hn, hil, rfl, hall, hbl⟩ := hrel
    have Hn := Lib.hid hn
    have HAll := Lib.hid hall
    have HBl := Lib.hid hbl
    have hB := HB2.out.below hbl
    have c0 := cell_regrown hB.b1.c0
    have c1 := cell_regrown hB.b1.c1
    have c2 := cell_regrown hB.b1.c2
    have c4 := cell_regrown hB.b0.c
    have c3 := hB.b0.c
    clear hn hall hB
    by_cases hlt : i < L.length
    · obtain ⟨x, hx⟩ : ∃ x, L[i]? = some x := ⟨_, List.getElem?_eq_getElem hlt⟩
      obtain ⟨rfl, z0, z1', z2, z3⟩ := (HRl.out.below hbl).row i _ hx
      simp only [Nat.zero_add] at z0 z1' z2 z3
      have HX := Lib.hid hx
      clear hx hbl
      have i1 : (0 : Int) ≤ (i : Int) := by omega
      have i2 : (i : Int) < (L.length : Int) := by omega
      cases hs : sameK k a n x with
      | true =>
        have HE := Lib.hid (dueS_at HAll.out HX.out hs)
        obtain ⟨rfl, rfl, rfl⟩ := sameK_iff.1 hs
        have y0 := cell_regrown z0
        have y1 := cell_regrown z1'
        have y2 := cell_regrown z2
        have y3 := cell_regrown z3
        clear hs z0 z1' z2 z3
        go_upto_region 4 with fail
        refine wp_region_quiet_below (by kernel_rfl) (by kernel_rfl) ?_
        repeat (first | go_big_quiet_step (fail) | quiet_step (fail))
        refine wpQuiet_nil ?_
        intro _ hw'
        obtain ⟨⟨dq, osq⟩, hw''⟩ := hw'
        subst hw''
        go_wp2_with fail
        rw [HE.out]
        exact bodyPost_ret (v := .tuple #[.int .i64 x.due, .bool true]) (by simp [results, Try.results14, go_sem]) rfl ⟨rfl, bthen HB2.out.bl (bthen HBl.out (below_regrown _ _ _))⟩
      | false =>
        have HS := Lib.hid hs
        by_cases f0 : x.kind = k
        · have t0 : (x.kind == k) = true := by simpa using f0
          by_cases f1 : x.addr = a
          · have t1' : (x.addr == a) = true := by simpa using f1
            have t1 : (x.len == n) = false := by
              simp only [beq_eq_false_iff_ne, ne_eq]
              intro f2
              rw [sameK_iff.2 ⟨f0, f1, f2⟩] at hs
              cases hs
            clear f0 f1 hs
            have y0 := cell_regrown z0
            have y1 := cell_regrown z1'
            have y2 := cell_regrown z2
            have y3 := cell_regrown z3
            clear z0 z1' z2 z3
            go_upto_region 4 with fail
            refine wp_region_quiet_below (by kernel_rfl) (by kernel_rfl) ?_
            repeat (first | go_big_quiet_step (fail) | quiet_step (fail))
            refine wpQuiet_nil ?_
            intro _ hw'
            obtain ⟨⟨dq, osq⟩, hw''⟩ := hw'
            subst hw''
            go_wp2_with fail
            go_roundg (L.length - (i + 1))
            case measure => have := Hn.out; omega
            case rel => exact ⟨i + 1, rfl, by omega, by go_num, fun j hj y hy => (by
              by_cases e : j = i
              · subst e; rw [HX.out] at hy; cases hy; exact HS.out
              · exact HAll.out j (by omega) y hy), bthen HBl.out (below_regrown _ _ _)⟩
          · have t1 : (x.addr == a) = false := by simpa using f1
            clear f0 f1 hs
            have y0 := cell_regrown z0
            have y1 := cell_regrown z1'
            have y2 := cell_regrown z2
            have y3 := cell_regrown z3
            clear z0 z1' z2 z3
            go_upto_region 4 with fail
            refine wp_region_quiet_below (by kernel_rfl) (by kernel_rfl) ?_
            repeat (first | go_big_quiet_step (fail) | quiet_step (fail))
            refine wpQuiet_nil ?_
            intro _ hw'
            obtain ⟨⟨dq, osq⟩, hw''⟩ := hw'
            subst hw''
            go_wp2_with fail
            go_roundg (L.length - (i + 1))
            case measure => have := Hn.out; omega
            case rel => exact ⟨i + 1, rfl, by omega, by go_num, fun j hj y hy => (by
              by_cases e : j = i
              · subst e; rw [HX.out] at hy; cases hy; exact HS.out
              · exact HAll.out j (by omega) y hy), bthen HBl.out (below_regrown _ _ _)⟩
        · have t1 : (x.kind == k) = false := by simpa using f0
          clear f0 hs
          have y0 := cell_regrown z0
          have y1 := cell_regrown z1'
          have y2 := cell_regrown z2
          have y3 := cell_regrown z3
          clear z0 z1' z2 z3
          go_upto_region 4 with fail
          refine wp_region_quiet_below (by kernel_rfl) (by kernel_rfl) ?_
          repeat (first | go_big_quiet_step (fail) | quiet_step (fail))
          refine wpQuiet_nil ?_
          intro _ hw'
          obtain ⟨⟨dq, osq⟩, hw''⟩ := hw'
          subst hw''
          go_wp2_with fail
          go_roundg (L.length - (i + 1))
          case measure => have := Hn.out; omega
          case rel => exact ⟨i + 1, rfl, by omega, by go_num, fun j hj y hy => (by
            by_cases e : j = i
            · subst e; rw [HX.out] at hy; cases hy; exact HS.out
            · exact HAll.out j (by omega) y hy), bthen HBl.out (below_regrown _ _ _)⟩
    · obtain rfl : i = L.length := by omega
      have HE := Lib.hid (dueS_end HAll.out)
      go_wp2_with fail
      rw [HE.out]
      exact bodyPost_ret (v := .tuple #[.int .i64 0, .bool false]) (by simp [results, Try.results14, go_sem]) rfl ⟨rfl, bthen HB2.out.bl HBl.out⟩

theorem info45 : (Try.prog.info? 45).map (fun i => (i.zero, i.size, i.bytes)) = some (some (.agg #[.int .i64 0, .int .u32 0, .int .i64 0, .int .i64 0]), 4, 32) := by kernel_rfl
theorem tCs_snoc (L : List TR) (x : TR) : tCs (L ++ [x]) = tCs L ++ tC x := by simp [tCs]
theorem own_block {W : World} {base n size : Nat} {e : TypeId} {v : Value} {xs : List Value} (h : W.ownsRow base e size v n xs) {k : Nat} (hk : v.ownBlock = some k) : base ≤ k ∧ k < W.heap.size := h.lt k hk
/-- the reference's queue out of a row that was made -/
theorem rt_of_row {W : World} {B : Nat} {v : Value} {L : List TR} (h : W.ownsRow B 45 4 v L.length (tCs L)) (hB : B < W.heap.size) : ∃ g base cap, v = .slice base L.length cap ∧ RT W g (.agg #[v]) L ∧ B ≤ g ∧ (g = B ∨ v.ownBlock = some g) := by
  rcases h.2 with ⟨rfl, hn⟩ | ⟨g, cap, cur, rfl, hb, hg, h1, h2, h3, h4⟩
  · have : L = [] := List.length_eq_zero_iff.1 hn
    subst this
    exact ⟨B, none, 0, rfl, RT.nil hB, Nat.le_refl _, .inl rfl⟩
  · refine ⟨g, _, cap, rfl, ⟨_, cap, rfl, ⟨(Array.getElem?_eq_some_iff.1 hg).1, fun i r hr => ?_⟩, h1⟩, hb, .inr rfl⟩
    have hil := (List.getElem?_eq_some_iff.1 hr).1
    have hc : ∀ c u, c < 4 → (tC r)[c]? = some u → W.cell? ⟨g, 0 + i * 4 + c, none⟩ = some u := fun c u hc hu => by
      rw [Nat.zero_add, h.cellAt _ (by omega), tCs_at hr hc, hu]
    exact ⟨rfl, hc 0 _ (by omega) rfl, hc 1 _ (by omega) rfl, hc 2 _ (by omega) rfl, hc 3 _ (by omega) rfl⟩
theorem cells_four_new (w : World) (a b c d : Value) (t : TypeId) : ∀ j u, [a, b, c, d][j]? = some u → (w.alloc (.cells #[a, b, c, d] t)).cell? ((⟨w.heap.size, 0, none⟩ : Addr).add j) = some u := by
  intro j u hj
  match j, hj with
  | 0, hj => simp at hj; subst hj; simp [Addr.add, go_sem]
  | 1, hj => simp at hj; subst hj; simp [Addr.add, go_sem]
  | 2, hj => simp at hj; subst hj; simp [Addr.add, go_sem]
  | 3, hj => simp at hj; subst hj; simp [Addr.add, go_sem]
  | j + 4, hj => simp at hj
theorem wo_yes {k a n : Int} {L : List TR} {i : Nat} {x : TR} (h : L[i]? = some x) (hp : sameK k a n x = false) : wo k a n (L.take (i + 1)) = wo k a n (L.take i) ++ [x] := by
  have hl := (List.getElem?_eq_some_iff.1 h).1
  rw [List.take_succ_eq_append_getElem hl]
  rw [List.getElem?_eq_getElem hl] at h
  rw [Option.some.inj h]
  simp [wo, hp]
theorem wo_no {k a n : Int} {L : List TR} {i : Nat} {x : TR} (h : L[i]? = some x) (hp : sameK k a n x = true) : wo k a n (L.take (i + 1)) = wo k a n (L.take i) := by
  have hl := (List.getElem?_eq_some_iff.1 h).1
  rw [List.take_succ_eq_append_getElem hl]
  rw [List.getElem?_eq_getElem hl] at h
  rw [Option.some.inj h]
  simp [wo, hp]

/-- the three boxes: a list, a timer, a result -/
structure B3 (w W : World) (v : Value) (k a n : Int) (v' : Value) : Prop where
  b0 : OneB W w.heap.size v 37
  b1 : TBox W (w.heap.size + 1) k a n
  b2 : OneB W (w.heap.size + 1 + 1) v' 37
  bl : Below w.heap.size w W
theorem B3.start (w : World) (v : Value) (k a n : Int) (v' : Value) : B3 w (((w.alloc (.cells #[v] 37)).alloc (.cells #[.int .i64 k, .int .u32 a, .int .i64 n] 29)).alloc (.cells #[v'] 37)) v k a n v' := by
  refine ⟨((OneB.new w v 37).alloc _).alloc _, ?_, ?_, (((Below.refl _ _).alloc (Nat.le_refl _) _).alloc (by simp) _).alloc (by simp; omega) _⟩
  · have := (TBox.new (w.alloc (.cells #[v] 37)) k a n).below (below1 _ (.cells #[v'] 37))
    simpa using this
  · have := OneB.new ((w.alloc (.cells #[v] 37)).alloc (.cells #[.int .i64 k, .int .u32 a, .int .i64 n] 29)) v' 37
    simpa using this
section
variable {w W : World} {v : Value} {k a n : Int} {v' : Value} (h : B3 w W v k a n v')
include h
theorem B3.below {W' : World} (hb : Below W.heap.size W W') : B3 w W' v k a n v' := ⟨h.b0.below hb, h.b1.below hb, h.b2.below hb, bthen h.bl hb⟩
theorem B3.sz : w.heap.size + 1 + 1 < W.heap.size := h.b2.lt
theorem B3.set (u : Value) : B3 w (W.setCell ⟨w.heap.size + 1 + 1, 0, none⟩ u) v k a n u :=
  ⟨h.b0.other (by omega), (Below.heap_setCell W _ u _ (by simp)).trans h.b1, h.b2.set u, h.bl.setCell (p := ⟨w.heap.size + 1 + 1, 0, none⟩) (by simp; omega) _⟩
theorem B3.set0 (u : Value) : B3 w (W.setCell ⟨w.heap.size, 0, none⟩ u) u k a n v' :=
  ⟨h.b0.set u, (Below.heap_setCell W _ u _ (by simp)).trans h.b1, h.b2.other (by omega), h.bl.setCell (p := ⟨w.heap.size, 0, none⟩) (by simp) _⟩
end

theorem own_below {W W' : World} {base n size : Nat} {e : TypeId} {v : Value} {xs : List Value} (h : W.ownsRow base e size v n xs) (hb : Below W.heap.size W W') : W'.ownsRow base e size v n xs :=
  h.kept (below_grownBy hb) (by cases v.ownBlock <;> simp)
theorem own_mono {W : World} {B B' e size n : Nat} {v : Value} {xs : List Value} (h : W.ownsRow B e size v n xs) (hb : B' ≤ B) : W.ownsRow B' e size v n xs :=
  ⟨h.1, h.2.imp id (fun ⟨g, cap, cur, h1, h2, h3⟩ => ⟨g, cap, cur, h1, Nat.le_trans hb h2, h3⟩)⟩
def woRel (w0 : World) (k a n : Int) (L : List TR) (m : Nat) (v5 v6 : Value) (wr : World) : Prop :=
  ∃ i : Nat, m = L.length - i ∧ i ≤ L.length ∧ v6 = .int .i64 i ∧ wr.ownsRow w0.heap.size 45 4 v5 (wo k a n (L.take i)).length (tCs (wo k a n (L.take i))) ∧ Below w0.heap.size w0 wr
theorem ownsRow_succ {W : World} {B e size n : Nat} {v : Value} {xs : List Value} (h : W.ownsRow B e size v (n + 1) xs) : ∃ g cap, v = .slice (some ⟨g, 0, none⟩) (n + 1) cap := by
  rcases h.2 with ⟨_, h0⟩ | ⟨g, cap, cur, rfl, _⟩
  · omega
  · exact ⟨g, cap, rfl⟩

set_option maxRecDepth 100000 in
set_option maxHeartbeats 8000000 in
theorem without_any (v : Value) (g : Nat) (L : List TR) (k a n : Int) (w : World) (hS : RT w g v L) (hl : L.length ≤ 1000) :
    Calls Try.prog 48 #[v, keyV k a n] w fun e w' => (∃ v' g', e = .returned v' ∧ RT w' g' v' (wo k a n L) ∧ w.heap.size ≤ g') ∧ Below w.heap.size w w' := by
  obtain ⟨base, cap, rfl, hS, hcap⟩ := hS.ex
  have hb3 := B3.start w (.slice base L.length cap) k a n (.slice none 0 0)
  have hgl := hS.lt
  have HRl := Lib.hid (hS.below hb3.bl)
  have HB3 := Lib.hid hb3
  obtain ⟨i0, hii, hz0, hz1, hz2⟩ := info_parts info45
  unfold keyV
  clear hb3 hS
  go_enter Try.func48, Try.ntmps48
  go_wp2_with fail
  have HSz := Lib.hid (show (((w.alloc (.cells #[.slice base L.length cap] 37)).alloc (.cells #[.int .i64 k, .int .u32 a, .int .i64 n] 29)).alloc (.cells #[.slice none 0 0] 37)).heap.size = w.heap.size + 1 + 1 + 1 by simp)
  generalize (((w.alloc (.cells #[.slice base L.length cap] 37)).alloc (.cells #[.int .i64 k, .int .u32 a, .int .i64 n] 29)).alloc (.cells #[.slice none 0 0] 37)) = w2 at *
  go_loopg [5, 6] L.length (woRel w2 k a n L)
  case atStart => exact ⟨0, rfl, by omega, rfl, World.ownsRow_nil _ _ _ _, Below.refl _ _⟩
  case round =>
    obtain ⟨i, hn, hil, rfl, hrow, hbl⟩ := hrel
    have Hn := Lib.hid hn
    have HBl := Lib.hid hbl
    have HRow := Lib.hid hrow
    have hB := HB3.out.below hbl
    have c0 := cell_regrown hB.b1.c0
    have c1 := cell_regrown hB.b1.c1
    have c2 := cell_regrown hB.b1.c2
    have c4 := cell_regrown hB.b0.c
    have c3 := hB.b0.c
    have HB := Lib.hid hB
    clear hn hB hrow
    by_cases hlt : i < L.length
    · obtain ⟨x, hx⟩ : ∃ x, L[i]? = some x := ⟨_, List.getElem?_eq_getElem hlt⟩
      obtain ⟨rfl, z0, z1', z2, z3⟩ := (HRl.out.below hbl).row i _ hx
      simp only [Nat.zero_add] at z0 z1' z2 z3
      have HX := Lib.hid hx
      clear hx hbl
      have i1 : (0 : Int) ≤ (i : Int) := by omega
      have i2 : (i : Int) < (L.length : Int) := by omega
      cases hs : sameK k a n x with
      | true =>
        have HW := Lib.hid (wo_no HX.out hs)
        obtain ⟨rfl, rfl, rfl⟩ := sameK_iff.1 hs
        have y0 := cell_regrown z0
        have y1 := cell_regrown z1'
        have y2 := cell_regrown z2
        have y3 := cell_regrown z3
        clear hs z0 z1' z2 z3
        go_upto_region 5 with fail
        refine wp_region_quiet_below (by kernel_rfl) (by kernel_rfl) ?_
        repeat (first | go_big_quiet_step (fail) | quiet_step (fail))
        refine wpQuiet_nil ?_
        intro _ hw'
        obtain ⟨⟨dq, osq⟩, hw''⟩ := hw'
        subst hw''
        go_wp2_with fail
        go_roundg (L.length - (i + 1))
        case measure => have := Hn.out; omega
        case rel => exact ⟨i + 1, rfl, by omega, by go_num, by rw [HW.out]; exact own_below HRow.out (below_regrown _ _ _), bthen HBl.out (below_regrown _ _ _)⟩
      | false =>
        have HW := Lib.hid (wo_yes HX.out hs)
        have hfl : (wo k a n (L.take i)).length ≤ i := by
          have := List.length_filter_le (fun r => !sameK k a n r) (L.take i)
          rw [List.length_take] at this
          unfold wo
          omega
        by_cases f0 : x.kind = k
        · have t0 : (x.kind == k) = true := by simpa using f0
          by_cases f1 : x.addr = a
          · have t1' : (x.addr == a) = true := by simpa using f1
            have t1 : (x.len == n) = false := by
              simp only [beq_eq_false_iff_ne, ne_eq]
              intro f2
              rw [sameK_iff.2 ⟨f0, f1, f2⟩] at hs
              cases hs
            clear f0 f1 hs
            have y0 := cell_regrown z0
            have y1 := cell_regrown z1'
            have y2 := cell_regrown z2
            have y3 := cell_regrown z3
            clear z0 z1' z2 z3
            go_upto_region 5 with fail
            refine wp_region_quiet_below (by kernel_rfl) (by kernel_rfl) ?_
            repeat (first | go_big_quiet_step (fail) | quiet_step (fail))
            refine wpQuiet_nil ?_
            intro _ hw'
            obtain ⟨⟨dq, osq⟩, hw''⟩ := hw'
            subst hw''
            have HRow2 := Lib.hid (own_below HRow.out (below_regrown wr dq osq))
            have HBl2 := Lib.hid (bthen HBl.out (below_regrown wr dq osq))
            have hz := HBl2.out.size
            have e3 := c4 dq osq
            have x0 := y0 dq osq
            have x1 := y1 dq osq
            have x2 := y2 dq osq
            have x3 := y3 dq osq
            clear c0 c1 c2 c4 y0 y1 y2 y3 HRow HBl
            generalize grow (redrawn wr dq) osq = V at *
            go_wp2_with (at_builtin; refine wpList_append_own _ rfl _ _ 35 rfl w2.heap.size 45 i0 (.agg #[.int .i64 0, .int .u32 0, .int .i64 0, .int .i64 0]) 4 32 Try.underlying35 hii hz0 hz1 hz2 rfl (by decide) u5 _ _ rfl (HRow2.out.alloc _) ⟨V.heap.size, 0, none⟩ 1 1 (tC x) rfl rfl (cells_four_new _ _ _ _ _ _) (by simp [tC, Value.oneCell']) (by unfold maxLen; omega) (by omega) (by have := HBl2.out.size; simp; omega) ?_; intro v' w1 hown' hgrow _; obtain ⟨g', cap', rfl⟩ := ownsRow_succ hown'; have HO := Lib.hid hown'; have HG := Lib.hid hgrow; clear hown' hgrow)
            go_roundg (L.length - (i + 1))
            case measure => have := Hn.out; omega
            case rel => exact ⟨i + 1, rfl, by omega, by go_num, by rw [HW.out, tCs_snoc, List.length_append]; exact HO.out, ((HBl2.out.alloc HBl2.out.size _).grown HG.out (by have := HBl2.out.size; simp; omega) (fun k e => (own_block HRow2.out e).1))⟩
          · have t1 : (x.addr == a) = false := by simpa using f1
            clear f0 f1 hs
            have y0 := cell_regrown z0
            have y1 := cell_regrown z1'
            have y2 := cell_regrown z2
            have y3 := cell_regrown z3
            clear z0 z1' z2 z3
            go_upto_region 5 with fail
            refine wp_region_quiet_below (by kernel_rfl) (by kernel_rfl) ?_
            repeat (first | go_big_quiet_step (fail) | quiet_step (fail))
            refine wpQuiet_nil ?_
            intro _ hw'
            obtain ⟨⟨dq, osq⟩, hw''⟩ := hw'
            subst hw''
            have HRow2 := Lib.hid (own_below HRow.out (below_regrown wr dq osq))
            have HBl2 := Lib.hid (bthen HBl.out (below_regrown wr dq osq))
            have hz := HBl2.out.size
            have e3 := c4 dq osq
            have x0 := y0 dq osq
            have x1 := y1 dq osq
            have x2 := y2 dq osq
            have x3 := y3 dq osq
            clear c0 c1 c2 c4 y0 y1 y2 y3 HRow HBl
            generalize grow (redrawn wr dq) osq = V at *
            go_wp2_with (at_builtin; refine wpList_append_own _ rfl _ _ 35 rfl w2.heap.size 45 i0 (.agg #[.int .i64 0, .int .u32 0, .int .i64 0, .int .i64 0]) 4 32 Try.underlying35 hii hz0 hz1 hz2 rfl (by decide) u5 _ _ rfl (HRow2.out.alloc _) ⟨V.heap.size, 0, none⟩ 1 1 (tC x) rfl rfl (cells_four_new _ _ _ _ _ _) (by simp [tC, Value.oneCell']) (by unfold maxLen; omega) (by omega) (by have := HBl2.out.size; simp; omega) ?_; intro v' w1 hown' hgrow _; obtain ⟨g', cap', rfl⟩ := ownsRow_succ hown'; have HO := Lib.hid hown'; have HG := Lib.hid hgrow; clear hown' hgrow)
            go_roundg (L.length - (i + 1))
            case measure => have := Hn.out; omega
            case rel => exact ⟨i + 1, rfl, by omega, by go_num, by rw [HW.out, tCs_snoc, List.length_append]; exact HO.out, ((HBl2.out.alloc HBl2.out.size _).grown HG.out (by have := HBl2.out.size; simp; omega) (fun k e => (own_block HRow2.out e).1))⟩
        · have t1 : (x.kind == k) = false := by simpa using f0
          clear f0 hs
          have y0 := cell_regrown z0
          have y1 := cell_regrown z1'
          have y2 := cell_regrown z2
          have y3 := cell_regrown z3
          clear z0 z1' z2 z3
          go_upto_region 5 with fail
          refine wp_region_quiet_below (by kernel_rfl) (by kernel_rfl) ?_
          repeat (first | go_big_quiet_step (fail) | quiet_step (fail))
          refine wpQuiet_nil ?_
          intro _ hw'
          obtain ⟨⟨dq, osq⟩, hw''⟩ := hw'
          subst hw''
          have HRow2 := Lib.hid (own_below HRow.out (below_regrown wr dq osq))
          have HBl2 := Lib.hid (bthen HBl.out (below_regrown wr dq osq))
          have hz := HBl2.out.size
          have e3 := c4 dq osq
          have x0 := y0 dq osq
          have x1 := y1 dq osq
          have x2 := y2 dq osq
          have x3 := y3 dq osq
          clear c0 c1 c2 c4 y0 y1 y2 y3 HRow HBl
          generalize grow (redrawn wr dq) osq = V at *
          go_wp2_with (at_builtin; refine wpList_append_own _ rfl _ _ 35 rfl w2.heap.size 45 i0 (.agg #[.int .i64 0, .int .u32 0, .int .i64 0, .int .i64 0]) 4 32 Try.underlying35 hii hz0 hz1 hz2 rfl (by decide) u5 _ _ rfl (HRow2.out.alloc _) ⟨V.heap.size, 0, none⟩ 1 1 (tC x) rfl rfl (cells_four_new _ _ _ _ _ _) (by simp [tC, Value.oneCell']) (by unfold maxLen; omega) (by omega) (by have := HBl2.out.size; simp; omega) ?_; intro v' w1 hown' hgrow _; obtain ⟨g', cap', rfl⟩ := ownsRow_succ hown'; have HO := Lib.hid hown'; have HG := Lib.hid hgrow; clear hown' hgrow)
          go_roundg (L.length - (i + 1))
          case measure => have := Hn.out; omega
          case rel => exact ⟨i + 1, rfl, by omega, by go_num, by rw [HW.out, tCs_snoc, List.length_append]; exact HO.out, ((HBl2.out.alloc HBl2.out.size _).grown HG.out (by have := HBl2.out.size; simp; omega) (fun k e => (own_block HRow2.out e).1))⟩
    · obtain rfl : i = L.length := by omega
      have hrow := HRow.out
      rw [List.take_length] at hrow
      have hz := HSz.out
      have hbz := HBl.out.size
      have hg2 := hrow.lt
      obtain ⟨g1, b1, cap1, rfl, hRT, hg1, hg3⟩ := rt_of_row (own_mono hrow (show w.heap.size ≤ w2.heap.size by omega)) (by have := HB.out.sz; omega)
      have HNe := Lib.hid (show g1 ≠ w.heap.size + 1 + 1 by
        rcases hg3 with e | e
        · omega
        · have := hg2 g1 e; omega)
      have HRT := Lib.hid hRT
      have e0 := HB.out.b2.c
      have e1 := HB.out.b2.f
      have x2 := HB.out.sz
      clear hrow c0 c1 c2 c4 hRT hg2 hg3 HRow hz hbz
      go_wp2_with fail
      have hT := HB.out.set (.slice b1 (wo k a n L).length cap1)
      have hR := HRT.out.of_block (Below.heap_setCell wr ⟨w.heap.size + 1 + 1, 0, none⟩ (.slice b1 (wo k a n L).length cap1) g1 HNe.out)
      generalize (wr.setCell ⟨w.heap.size + 1 + 1, 0, none⟩ (.slice b1 (wo k a n L).length cap1)) = V at *
      have c0 := hT.b2.c
      exact bodyPost_ret (v := .agg #[.slice b1 (wo k a n L).length cap1]) (by simp [results, Try.results48, go_sem, c0]) rfl ⟨⟨_, g1, rfl, hR, hg1⟩, hT.bl⟩
end Go.Proofs.Ytkigoihdmojpfaa
