/- Contracts: From of the trie and of the reference. -/
import Derived.Test.YtbacahoihkpkpaaDoorT32
import Derived.Test.YtbacahoihkpkpaaDoorT29
import Derived.Deep.LoopGhost
namespace Go.Proofs.YtbacahoihkpkpaaDoor
open Go.RowKit Go.Shelf Go.Maps
open Go.Sort (grow)

/-- is a row ahead of a prefix? -/
def ahB (a n : Int) (x : Key × Int) : Bool := decide (ordI (ka x.1) x.1.length a n < 0)
/-- how many rows are ahead of a prefix -/
def ahd (a n : Int) (L : List (Key × Int)) : Nat := (L.takeWhile (ahB a n)).length
theorem tw_of {α : Type} {f : α → Bool} : ∀ {L : List α} {i : Nat}, i ≤ L.length → (∀ j, j < i → ∀ x, L[j]? = some x → f x = true) → (∀ x, L[i]? = some x → f x = false) → (L.takeWhile f).length = i
  | [], i, hi, _, _ => by simp at hi; simp [hi]
  | y :: L, 0, _, _, h2 => by
    have := h2 y rfl
    simp [this]
  | y :: L, i + 1, hi, h1, h2 => by
    have h0 := h1 0 (by omega) y rfl
    rw [List.takeWhile_cons, if_pos h0, List.length_cons, tw_of (L := L) (i := i) (by simp at hi; omega) (fun j hj x hx => h1 (j + 1) (by omega) x (by simpa using hx)) (fun x hx => h2 x (by simpa using hx))]
theorem ahd_le (a n : Int) (L : List (Key × Int)) : ahd a n L ≤ L.length := (List.takeWhile_prefix _).length_le
theorem orderI_g (pa pn qa qn : Int) (W : World) (d : Nat) (os : Array Obj) : Calls Tryd.prog 49 #[.agg #[.int .u32 pa, .int .i64 pn], .agg #[.int .u32 qa, .int .i64 qn]] (grow (redrawn W d) os) fun e w' => e = .returned (.int .i64 (ordI pa pn qa qn)) ∧ ∃ p : Regrown, w' = grow (redrawn W p.d) p.os :=
  Calls.regrown_of (Order_any pa pn qa qn _)
theorem orderR_g (pa pn qa qn : Int) (W : World) (d : Nat) (os : Array Obj) : Calls Tryd.prog 52 #[.agg #[.int .u32 pa, .int .i64 pn], .agg #[.int .u32 qa, .int .i64 qn]] (grow (redrawn W d) os) fun e w' => e = .returned (.int .i64 (ordI pa pn qa qn)) ∧ ∃ p : Regrown, w' = grow (redrawn W p.d) p.os := by
  rw [ord_eq]
  exact Calls.regrown_of (rOrder_any pa pn qa qn _)

def frRel (w0 : World) (a n : Int) (L : List (Key × Int)) (m : Nat) (v : Value) (wr : World) : Prop :=
  ∃ i : Nat, m = L.length - i ∧ i ≤ L.length ∧ v = .int .i64 i ∧ (∀ j, j < i → ∀ x, L[j]? = some x → ahB a n x = true) ∧ Below w0.heap.size w0 wr

theorem RL.nilAny {W : World} {g : Nat} (h : g < W.heap.size) (base : Option Addr) (o : Nat) : RL W base g o [] := ⟨h, fun i r hr => by simp at hr⟩
/-- a slice from a place on -/
theorem RL.from {W : World} {base : Option Addr} {g o : Nat} {L : List (Key × Int)} (h : RL W base g o L) (n : Nat) :
    (∀ b', RL W b' g o (L.drop n) ∨ n < L.length) ∧ (n < L.length → RL W (some ⟨g, o + n * 3, Option.none⟩) g (o + n * 3) (L.drop n)) := by
  refine ⟨fun b' => ?_, fun hn => ?_⟩
  · by_cases hl : n < L.length
    · exact .inr hl
    · left
      rw [List.drop_eq_nil_of_le (by omega)]
      exact RL.nilAny h.lt b' o
  · have h1 := h.drop n
    obtain ⟨hb, _⟩ := h.row n _ (List.getElem?_eq_getElem hn)
    rw [hb] at h1
    exact h1

/-- a function value that tells rows which lie in blocks of its own -/
structure ToldF (W : World) (B : Nat) (v : Value) (L : List (Key × Int)) : Prop where
  ex : ∃ (Bs g o cap : Nat) (base : Option Addr), v = toldV Bs ∧ B ≤ Bs ∧ W.heap[Bs]? = some (.cells #[.slice base L.length cap] 71) ∧ RL W base g o L ∧ L.length ≤ cap ∧ B ≤ g
theorem ToldF.told {W : World} {B : Nat} {v : Value} {L : List (Key × Int)} (h : ToldF W B v L) : Told W B v L := by
  obtain ⟨Bs, g, o, cap, base, h1, h2, h3, h4, h5, _⟩ := h.ex
  exact ⟨Bs, g, o, cap, base, h1, h2, h3, h4, h5⟩
theorem ToldF.keep {W W' : World} {B : Nat} {v : Value} {L : List (Key × Int)} (h : ToldF W B v L) (hb : ∀ i, B ≤ i → i < W.heap.size → W'.heap[i]? = W.heap[i]?) : ToldF W' B v L := by
  obtain ⟨Bs, g, o, cap, base, h1, h2, h3, h4, h5, h6⟩ := h.ex
  exact ⟨Bs, g, o, cap, base, h1, h2, (hb Bs h2 (Array.getElem?_eq_some_iff.1 h3).1).trans h3, h4.of_block (hb g h6 h4.lt), h5, h6⟩
theorem ToldF.below {W W' : World} {B : Nat} {v : Value} {L : List (Key × Int)} (h : ToldF W B v L) (hb : Below W.heap.size W W') : ToldF W' B v L := h.keep fun i _ hi => hb.block i hi
theorem ToldF.mk' {W : World} {B g o cap : Nat} {base : Option Addr} {L : List (Key × Int)} (h : RL W base g o L) (hc : L.length ≤ cap) (hB : B ≤ W.heap.size) (hg : B ≤ g) : ToldF (W.alloc (.cells #[.slice base L.length cap] 71)) B (toldV W.heap.size) L :=
  ⟨_, g, o, cap, base, rfl, hB, World.alloc_heap_new W _, h.below ((Below.refl _ W).alloc (Nat.le_refl _) _), hc, hg⟩

set_option maxRecDepth 100000 in
set_option maxHeartbeats 4000000 in
theorem From_any (q : Nat) (t : TT) (a n : Int) (w : World) (h : TrS w q t) (hl : t.rows.length ≤ 1000000) :
    Calls Tryd.prog 26 #[.pointer (some ⟨q, 0, none⟩), .agg #[.int .u32 a, .int .i64 n]] w fun e w' => ∃ v, e = .returned v ∧ ToldF w' w.heap.size v (t.rows.drop (ahd a n t.rows)) ∧ Below w.heap.size w w' := by
  have b0 : Below w.heap.size w (w.alloc (.cells #[.int .u32 a, .int .i64 n] 26)) := (Below.refl _ w).alloc (Nat.le_refl _) _
  have h1 := h.below b0
  have HN := Lib.hid (none_t q t _ h1)
  have HR := Lib.hid (rows_any q t _ h1 (by omega))
  have HB0 := Lib.hid b0
  have HPb := Lib.hid (PBox.new w a n)
  clear h h1 b0
  generalize t.rows = L at *
  go_enter Tryd.func26, Tryd.ntmps26
  go_upto_region 4 with (first
    | (go_at_call 34; with_reducible refine HN.out.mono ?_; rintro e w' ⟨rfl, rfl⟩)
    | (go_at_call 45; with_reducible refine HR.out.mono ?_; rintro e w2 ⟨v, rfl, hrow, hb⟩; have HB1 := Lib.hid hb; have HPc := Lib.hid (HPb.out.below hb)
       have z1 := hb.size
       obtain ⟨base, g, cap, rfl, hrl, hbg, hcap⟩ := rl_of_row hrow (by simp at z1; omega)
       have HRl := Lib.hid hrl
       have HBg := Lib.hid hbg
       clear hrow hrl hbg hb)
    | fail)
  have HPd := Lib.hid HPc.out
  have HBB := Lib.hid (bthen HB0.out HB1.out)
  clear HB0 HB1 HPb HPc HN HR
  go_wp2_with fail
  go_loopg [6] L.length (frRel w2 a n L)
  case atStart => exact ⟨0, rfl, by omega, rfl, fun j hj => by omega, Below.refl _ _⟩
  case round =>
    obtain ⟨i, hn, hil, rfl, hall, hbl⟩ := hrel
    have Hn := Lib.hid hn
    have HAll := Lib.hid hall
    have HBl := Lib.hid hbl
    have c0 := cell_regrown (HPd.out.below hbl).c0
    have c1 := cell_regrown (HPd.out.below hbl).c1
    clear hn hall
    by_cases hlt : i < L.length
    · obtain ⟨x, hx⟩ : ∃ x, L[i]? = some x := ⟨_, List.getElem?_eq_getElem hlt⟩
      obtain ⟨rfl, z0, z1', z2⟩ := (HRl.out.below hbl).row i _ hx
      simp only [Nat.zero_add] at z0 z1' z2
      have HX := Lib.hid hx
      have y0 := cell_regrown z0
      have y1 := cell_regrown z1'
      clear hx hbl z0 z1' z2
      have i1 : (0 : Int) ≤ (i : Int) := by omega
      have i2 : (i : Int) < (L.length : Int) := by omega
      cases hf : ahB a n x with
      | true =>
        have t1 : decide (ordI (ka x.1) x.1.length a n < 0) = true := hf
        have HF := Lib.hid hf
        clear hf
        go_upto_region 5 with fail
        refine wp_region_quiet_below (by kernel_rfl) (by kernel_rfl) ?_
        repeat (first | go_big_quiet_step (exact orderI_g _ _ _ _ _ _ _) | quiet_step (exact orderI_g _ _ _ _ _ _ _))
        refine wpQuiet_nil ?_
        intro _ hw'
        obtain ⟨⟨dq, osq⟩, hw''⟩ := hw'
        subst hw''
        go_wp2_with fail
        go_roundg (L.length - (i + 1))
        case measure => have := Hn.out; omega
        case rel => exact ⟨i + 1, rfl, by omega, by go_num, fun j hj y hy => (by
          by_cases e : j = i
          · subst e; rw [HX.out] at hy; cases hy; exact HF.out
          · exact HAll.out j (by omega) y hy), bthen HBl.out (below_regrown _ _ _)⟩
      | false =>
        have t1 : decide (ordI (ka x.1) x.1.length a n < 0) = false := hf
        have HF := Lib.hid hf
        clear hf
        have hcl : (i : Int) ≤ (cap : Int) := by omega
        have HE := Lib.hid (show ahd a n L = i from tw_of hil HAll.out (fun y hy => by rw [HX.out] at hy; cases hy; exact HF.out))
        go_upto_region 5 with fail
        refine wp_region_quiet_below (by kernel_rfl) (by kernel_rfl) ?_
        repeat (first | go_big_quiet_step (exact orderI_g _ _ _ _ _ _ _) | quiet_step (exact orderI_g _ _ _ _ _ _ _))
        refine wpQuiet_nil ?_
        intro _ hw'
        obtain ⟨⟨dq, osq⟩, hw''⟩ := hw'
        subst hw''
        have HV := Lib.hid (bthen HBl.out (below_regrown wr dq osq))
        clear c0 c1 y0 y1
        generalize grow (redrawn wr dq) osq = V at *
        go_wp2_with (go_at_call 37; refine (told_any _ _ _ _ rfl _).mono ?_; rintro e w' ⟨rfl, rfl⟩)
        go_ret
        have hb2 := HV.out
        have hb := bthen HBB.out hb2
        rw [HE.out]
        refine ⟨_, rfl, ?_, hb.alloc hb.size _⟩
        have := ToldF.mk' (B := w.heap.size) (cap := cap - i) (((HRl.out.from i).2 hlt).below hb2) (by simp; omega) hb.size (by rcases HBg.out with h | h; (cases h); (simp at h; omega))
        rw [List.length_drop, Nat.zero_add] at this
        exact this
    · obtain rfl : i = L.length := by omega
      have HE := Lib.hid (show ahd a n L = L.length from tw_of hil HAll.out (fun y hy => by simp at hy))
      have hcl : (L.length : Int) ≤ (cap : Int) := by omega
      go_upto_region 5 with fail
      refine wp_region_quiet_below (by kernel_rfl) (by kernel_rfl) ?_
      repeat (first | go_big_quiet_step (exact orderI_g _ _ _ _ _ _ _) | quiet_step (exact orderI_g _ _ _ _ _ _ _))
      refine wpQuiet_nil ?_
      intro _ hw'
      obtain ⟨⟨dq, osq⟩, hw''⟩ := hw'
      subst hw''
      have HV := Lib.hid (bthen HBl.out (below_regrown wr dq osq))
      clear c0 c1
      generalize grow (redrawn wr dq) osq = V at *
      go_wp2_with (go_at_call 37; refine (told_any _ _ _ _ rfl _).mono ?_; rintro e w' ⟨rfl, rfl⟩)
      all_goals
        go_ret
        have hb := bthen HBB.out HV.out
        rw [HE.out, List.drop_length]
        refine ⟨_, rfl, ?_, hb.alloc hb.size _⟩
        exact ToldF.mk' (L := []) (RL.nilAny (g := w.heap.size) (by have := HV.out.size; have := HPd.out.lt; omega) _ 0) (by simp) hb.size (Nat.le_refl _)

set_option maxRecDepth 100000 in
set_option maxHeartbeats 4000000 in
theorem From_nil (a n : Int) (w : World) :
    Calls Tryd.prog 26 #[.pointer none, .agg #[.int .u32 a, .int .i64 n]] w fun e w' => ∃ v, e = .returned v ∧ Told w' w.heap.size v [] ∧ Below w.heap.size w w' := by
  go_enter Tryd.func26, Tryd.ntmps26
  go_wp2_with (first
    | (go_at_call 34; with_reducible refine (none_n _).mono ?_; rintro e w' ⟨rfl, rfl⟩)
    | (go_at_call 37; refine (told_any _ _ _ _ rfl _).mono ?_; rintro e w' ⟨rfl, rfl⟩)
    | fail)
  go_ret
  have b0 : Below w.heap.size w (w.alloc (.cells #[.int .u32 a, .int .i64 n] 26)) := (Below.refl _ w).alloc (Nat.le_refl _) _
  have ht := Told.nil (W := w.alloc (.cells #[.int .u32 a, .int .i64 n] 26)) (by simp) b0.size
  rw [World.size_alloc] at ht
  exact ⟨_, rfl, ht, b0.alloc b0.size _⟩

/-- what the reference's From answers -/
structure RSl (W : World) (v : Value) (L : List (Key × Int)) : Prop where
  ex : ∃ (base : Option Addr) (g o cap : Nat), v = .slice base L.length cap ∧ RL W base g o L ∧ L.length ≤ cap
theorem RSl.below {W W' : World} {v : Value} {L : List (Key × Int)} (h : RSl W v L) (hb : Below W.heap.size W W') : RSl W' v L := by
  obtain ⟨base, g, o, cap, h1, h2, h3⟩ := h.ex
  exact ⟨base, g, o, cap, h1, h2.below hb, h3⟩

set_option maxRecDepth 100000 in
set_option maxHeartbeats 4000000 in
theorem rFrom_any (base : Option Addr) (g cap : Nat) (L : List (Key × Int)) (a n : Int) (w : World) (hS : RL w base g 0 L) (hcap : L.length ≤ cap) (hl : L.length ≤ 1000000) :
    Calls Tryd.prog 28 #[.agg #[.slice base L.length cap], .agg #[.int .u32 a, .int .i64 n]] w fun e w' => ∃ v, e = .returned v ∧ RSl w' v (L.drop (ahd a n L)) ∧ Below w.heap.size w w' := by
  have b0 : Below w.heap.size w ((w.alloc (.cells #[.slice base L.length cap] 31)).alloc (.cells #[.int .u32 a, .int .i64 n] 26)) := ((Below.refl _ w).alloc (Nat.le_refl _) _).alloc (by simp) _
  have HRl := Lib.hid (hS.below b0)
  have HBB := Lib.hid b0
  have HPd := Lib.hid (show PBox ((w.alloc (.cells #[.slice base L.length cap] 31)).alloc (.cells #[.int .u32 a, .int .i64 n] 26)) (w.heap.size + 1) a n by
    have := PBox.new (w.alloc (.cells #[.slice base L.length cap] 31)) a n
    simpa using this)
  have HOb := Lib.hid (show OneB ((w.alloc (.cells #[.slice base L.length cap] 31)).alloc (.cells #[.int .u32 a, .int .i64 n] 26)) w.heap.size (.slice base L.length cap) 31 from (OneB.new w _ _).alloc _)
  clear b0 hS
  go_enter Tryd.func28, Tryd.ntmps28
  go_wp2_with fail
  generalize ((w.alloc (.cells #[.slice base L.length cap] 31)).alloc (.cells #[.int .u32 a, .int .i64 n] 26)) = w2 at *
  go_loopg [5] L.length (frRel w2 a n L)
  case atStart => exact ⟨0, rfl, by omega, rfl, fun j hj => by omega, Below.refl _ _⟩
  case round =>
    obtain ⟨i, hn, hil, rfl, hall, hbl⟩ := hrel
    have Hn := Lib.hid hn
    have HAll := Lib.hid hall
    have HBl := Lib.hid hbl
    have c0 := cell_regrown (HPd.out.below hbl).c0
    have c1 := cell_regrown (HPd.out.below hbl).c1
    have c2 := cell_regrown (HOb.out.below hbl).c
    clear hn hall
    by_cases hlt : i < L.length
    · obtain ⟨x, hx⟩ : ∃ x, L[i]? = some x := ⟨_, List.getElem?_eq_getElem hlt⟩
      obtain ⟨rfl, z0, z1', z2⟩ := (HRl.out.below hbl).row i _ hx
      simp only [Nat.zero_add] at z0 z1' z2
      have HX := Lib.hid hx
      have y0 := cell_regrown z0
      have y1 := cell_regrown z1'
      clear hx hbl z0 z1' z2
      have i1 : (0 : Int) ≤ (i : Int) := by omega
      have i2 : (i : Int) < (L.length : Int) := by omega
      cases hf : ahB a n x with
      | true =>
        have t1 : decide (ordI (ka x.1) x.1.length a n < 0) = true := hf
        have HF := Lib.hid hf
        clear hf
        go_upto_region 2 with fail
        refine wp_region_quiet_below (by kernel_rfl) (by kernel_rfl) ?_
        repeat (first | go_big_quiet_step (exact orderR_g _ _ _ _ _ _ _) | quiet_step (exact orderR_g _ _ _ _ _ _ _))
        refine wpQuiet_nil ?_
        intro _ hw'
        obtain ⟨⟨dq, osq⟩, hw''⟩ := hw'
        subst hw''
        go_wp2_with fail
        go_roundg (L.length - (i + 1))
        case measure => have := Hn.out; omega
        case rel => exact ⟨i + 1, rfl, by omega, by go_num, fun j hj y hy => (by
          by_cases e : j = i
          · subst e; rw [HX.out] at hy; cases hy; exact HF.out
          · exact HAll.out j (by omega) y hy), bthen HBl.out (below_regrown _ _ _)⟩
      | false =>
        have t1 : decide (ordI (ka x.1) x.1.length a n < 0) = false := hf
        have HF := Lib.hid hf
        clear hf
        have hcl : (i : Int) ≤ (cap : Int) := by omega
        have HE := Lib.hid (show ahd a n L = i from tw_of hil HAll.out (fun y hy => by rw [HX.out] at hy; cases hy; exact HF.out))
        go_upto_region 2 with fail
        refine wp_region_quiet_below (by kernel_rfl) (by kernel_rfl) ?_
        repeat (first | go_big_quiet_step (exact orderR_g _ _ _ _ _ _ _) | quiet_step (exact orderR_g _ _ _ _ _ _ _))
        refine wpQuiet_nil ?_
        intro _ hw'
        obtain ⟨⟨dq, osq⟩, hw''⟩ := hw'
        subst hw''
        have HV := Lib.hid (bthen HBl.out (below_regrown wr dq osq))
        clear c0 c1 y0 y1 c2
        generalize grow (redrawn wr dq) osq = V at *
        have c2 := (HOb.out.below HV.out).c
        go_wp2_with fail
        go_ret
        have hb2 := HV.out
        have hb := bthen HBB.out hb2
        rw [HE.out]
        refine ⟨_, rfl, ⟨some ⟨g, i * 3, Option.none⟩, g, i * 3, cap - i, by simp, ?_, by simp; omega⟩, hb⟩
        have := ((HRl.out.from i).2 hlt).below hb2
        rw [Nat.zero_add] at this
        exact this
    · obtain rfl : i = L.length := by omega
      have HE := Lib.hid (show ahd a n L = L.length from tw_of hil HAll.out (fun y hy => by simp at hy))
      have hcl : (L.length : Int) ≤ (cap : Int) := by omega
      go_upto_region 2 with fail
      refine wp_region_quiet_below (by kernel_rfl) (by kernel_rfl) ?_
      repeat (first | go_big_quiet_step (exact orderR_g _ _ _ _ _ _ _) | quiet_step (exact orderR_g _ _ _ _ _ _ _))
      refine wpQuiet_nil ?_
      intro _ hw'
      obtain ⟨⟨dq, osq⟩, hw''⟩ := hw'
      subst hw''
      have HV := Lib.hid (bthen HBl.out (below_regrown wr dq osq))
      clear c0 c1 c2 hbl
      generalize grow (redrawn wr dq) osq = V at *
      have c2 := (HOb.out.below HV.out).c
      go_wp2_with fail
      all_goals
        go_ret
        have hb := bthen HBB.out HV.out
        rw [HE.out, List.drop_length]
        exact ⟨_, rfl, ⟨_, 0, 0, _, rfl, RL.nilAny (g := 0) (by have := HV.out.size; have := HPd.out.lt; omega) _ 0, by simp⟩, hb⟩
end Go.Proofs.YtbacahoihkpkpaaDoor
