/- Contracts: trie.Find, Above, Len. -/
import Derived.Test.YtbacahoihkpkpaaDoorT20
namespace Go.Proofs.YtbacahoihkpkpaaDoor
open Go.RowKit Go.Shelf

theorem TrS.dp {w : World} {q : Nat} {t : TT} (h : TrS w q t) : t.dp ≤ 1000 := by
  have := TT.dp_le h.wf (q := []) (fun _ _ => List.nil_prefix) (by simp)
  simp at this; omega
theorem addr_key {a : Int} (a0 : 0 ≤ a) (a1 : a < 4294967296) : ∃ p : Key, p.length = 32 ∧ a = ka p := by
  have hr : rightB a 32 = true := by
    rw [rightB_iff a 32 a0 a1]
    exact ⟨by omega, by omega, by simp; omega⟩
  obtain ⟨k, h1, h2, h3⟩ := key_of a0 a1 hr
  exact ⟨k, by omega, h2⟩

set_option maxHeartbeats 400000 in
theorem Len_any (q : Nat) (t : TT) (w : World) (h : TrS w q t) : Calls Tryd.prog 22 #[.pointer (some ⟨q, 0, none⟩)] w fun e w' => e = .returned (.int .i64 t.rows.length) ∧ w = w' := by
  have c1 := h.c1
  have H := Lib.hid h
  clear h
  go_enter Tryd.func22, Tryd.ntmps22
  go_wp2_with (go_at_call 34; with_reducible refine (none_t q t _ H.out).mono ?_; rintro e w' ⟨rfl, rfl⟩)
  go_ret
  exact ⟨rfl, rfl⟩
set_option maxHeartbeats 400000 in
theorem Len_nil (w : World) : Calls Tryd.prog 22 #[.pointer none] w fun e w' => e = .returned (.int .i64 0) ∧ w = w' := by
  go_enter Tryd.func22, Tryd.ntmps22
  go_wp2_with (go_at_call 34; with_reducible refine (none_n _).mono ?_; rintro e w' ⟨rfl, rfl⟩)
  go_ret
  exact ⟨rfl, rfl⟩

/-- what Find tells -/
def findV : Option (Key × Int) → Value
  | some x => .tuple #[.agg #[.int .u32 (ka x.1), .int .i64 x.1.length], .int .i64 x.2, .bool true]
  | none => .tuple #[.agg #[.int .u32 0, .int .i64 0], .int .i64 0, .bool false]

set_option maxHeartbeats 400000 in
theorem Find_nil (a : Int) (w : World) : Calls Tryd.prog 11 #[.pointer none, .int .u32 a] w fun e w' => e = .returned (findV none) ∧ Below w.heap.size w w' := by
  go_enter Tryd.func11, Tryd.ntmps11
  go_wp2_with (go_at_call 34; with_reducible refine (none_n _).mono ?_; rintro e w' ⟨rfl, rfl⟩)
  refine bodyPost_ret (v := .tuple #[.agg #[.int .u32 0, .int .i64 0], .int .i64 0, .bool false]) (by simp [results, Tryd.results11, go_sem]) rfl ⟨rfl, ?_⟩
  exact (Below.refl _ _).alloc (Nat.le_refl _) _

set_option maxRecDepth 100000 in
set_option maxHeartbeats 2000000 in
theorem Find_any (q : Nat) (t : TT) (p : Key) (w : World) (h : TrS w q t) (hR : RelsAt w) (hp : p.length = 32) :
    Calls Tryd.prog 11 #[.pointer (some ⟨q, 0, none⟩), .int .u32 (ka p)] w fun e w' => e = .returned (findV (t.above p).getLast?) ∧ Below w.heap.size w w' := by
  have b0 : Below w.heap.size w (w.alloc (.cells #[.int .u32 0, .int .i64 0] 26)) := (Below.refl _ w).alloc (Nat.le_refl _) _
  have h1 := h.below b0
  have hA0 := above_any q p t (by omega) h1.keysLen h1.dp _ h1.at h1.lt (hR.below b0)
  rw [hp, show ((32 : Nat) : Int) = 32 from rfl] at hA0
  have hA := Lib.hid hA0
  clear hA0
  have hN := Lib.hid (none_t q t _ h1)
  have hpb : PBox (w.alloc (.cells #[.int .u32 0, .int .i64 0] 26)) w.heap.size 0 0 := PBox.new w _ _
  have HPB := Lib.hid hpb
  have HB0 := Lib.hid b0
  have hlen : (t.above p).length ≤ 1000 := by
    have : (t.above p).length ≤ (t.way p ⟨q, 0, none⟩).length := by rw [← abv_all t p q]; have := abv_len (upF (wayQ t p q).length (wayQ t p q).length); rw [upF_len (Nat.le_refl _)] at this; exact this
    exact Nat.le_trans this (Nat.le_trans way_len h.dp)
  clear h h1 hR b0 hpb
  revert hA hlen
  generalize t.above p = L
  intro hA hlen
  rcases Nat.eq_zero_or_pos L.length with hz | hz
  · obtain rfl : L = [] := List.eq_nil_of_length_eq_zero hz
    clear hz hlen
    simp only [List.length_nil] at hA
    go_enter Tryd.func11, Tryd.ntmps11
    go_wp2_with (first
      | (go_at_call 34; with_reducible refine hN.out.mono ?_; rintro e w' ⟨rfl, rfl⟩)
      | (go_at_call 35; with_reducible refine hA.out.mono ?_; rintro e w2 ⟨v, rfl, hrow, hb⟩; have HRow := Lib.hid hrow; have HB := Lib.hid hb; clear hrow hb
         obtain ⟨base, g, cap, rfl, hrl, hbg, hcap⟩ := rl_of_row HRow.out (by have := HB.out.size; simp at this; omega)
         have hpb2 := HPB.out.below HB.out
         have f0 := hpb2.f0
         have f1 := hpb2.f1
         have y0 := hpb2.c0
         have y1 := hpb2.c1
         have HPB2 := Lib.hid hpb2
         clear hrl hpb2)
      | fail)
    have q0 := (HPB2.out.set 0 0).c0
    have q1 := (HPB2.out.set 0 0).c1
    refine bodyPost_ret (v := .tuple #[.agg #[.int .u32 0, .int .i64 0], .int .i64 0, .bool false]) (by simp [results, Tryd.results11, go_sem, q0, q1]) rfl ⟨rfl, ?_⟩
    exact ((HB0.out.trans (HB.out.mono (by simp))).setCell (p := ⟨w.heap.size, 0, none⟩) (Nat.le_refl _) _).setCell (p := ⟨w.heap.size, 1, none⟩) (Nat.le_refl _) _
  · obtain ⟨m, hm⟩ : ∃ m, L.length = m + 1 := ⟨L.length - 1, by omega⟩
    obtain ⟨x, hx⟩ : ∃ x, L[m]? = some x := ⟨_, List.getElem?_eq_getElem (by omega)⟩
    have hl : L.getLast? = some x := by rw [List.getLast?_eq_getElem?, hm]; exact hx
    rw [hl]
    have t0 : (((m : Int) + 1) == 0) = false := by simp; omega
    go_enter Tryd.func11, Tryd.ntmps11
    go_wp2_with (first
      | (go_at_call 34; with_reducible refine hN.out.mono ?_; rintro e w' ⟨rfl, rfl⟩)
      | (go_at_call 35; with_reducible refine hA.out.mono ?_; rintro e w2 ⟨v, rfl, hrow, hb⟩; have HRow := Lib.hid hrow; have HB := Lib.hid hb; clear hrow hb
         obtain ⟨base, g, cap, rfl, hrl, hbg, hcap⟩ := rl_of_row HRow.out (by have := HB.out.size; simp at this; omega)
         obtain ⟨rfl, k0, k1, k2⟩ := hrl.row m x hx
         simp only [Nat.zero_add] at k0 k1 k2
         have hgl := hrl.lt
         have hpb2 := HPB.out.below HB.out
         have f0 := hpb2.f0
         have f1 := hpb2.f1
         have y0 := hpb2.c0
         have y1 := hpb2.c1
         have HPB2 := Lib.hid hpb2
         clear hrl hpb2)
      | fail)
    have hne : w.heap.size ≠ w2.heap.size := by have := HB.out.size; simp at this; omega
    have hP := PBox.alloc HPB2.out (Obj.cells #[Value.int IntKind.u32 (ka x.1), Value.int IntKind.i64 x.1.length, Value.int IntKind.i64 x.2] 74)
    have HX := Lib.hid (((HB0.out.trans (HB.out.mono (by simp))).alloc (B := w.heap.size) (by have := HB.out.size; simp at this; omega) (Obj.cells #[Value.int IntKind.u32 (ka x.1), Value.int IntKind.i64 x.1.length, Value.int IntKind.i64 x.2] 74)))
    have n0 : (w2.alloc (Obj.cells #[Value.int IntKind.u32 (ka x.1), Value.int IntKind.i64 x.1.length, Value.int IntKind.i64 x.2] 74)).cell? ⟨w2.heap.size, 0, none⟩ = some (.int .u32 (ka x.1)) := by simp [go_sem]
    have n1 : (w2.alloc (Obj.cells #[Value.int IntKind.u32 (ka x.1), Value.int IntKind.i64 x.1.length, Value.int IntKind.i64 x.2] 74)).cell? ⟨w2.heap.size, 1, none⟩ = some (.int .i64 x.1.length) := by simp [go_sem]
    have n2 : (w2.alloc (Obj.cells #[Value.int IntKind.u32 (ka x.1), Value.int IntKind.i64 x.1.length, Value.int IntKind.i64 x.2] 74)).cell? ⟨w2.heap.size, 2, none⟩ = some (.int .i64 x.2) := by simp [go_sem]
    clear f0 f1 y0 y1
    have f0 := hP.f0
    have f1 := hP.f1
    have y0 := hP.c0
    have y1 := hP.c1
    have HP := Lib.hid hP
    clear hP k0 k1 k2 hgl HRow HB HPB2 hbg hcap
    generalize w2.alloc (Obj.cells #[Value.int IntKind.u32 (ka x.1), Value.int IntKind.i64 x.1.length, Value.int IntKind.i64 x.2] 74) = X at *
    generalize w2.heap.size = V at *
    go_region_held3 (fun w' => w'.cell? ⟨V, 0, none⟩ = some (.int .u32 (ka x.1)) ∧ w'.cell? ⟨V, 1, none⟩ = some (.int .i64 x.1.length) ∧ w'.cell? ⟨V, 2, none⟩ = some (.int .i64 x.2))
      (go_keep) (fail)
    all_goals go_wp2_with fail
    all_goals
      have q0 := (HP.out.set (ka x.1) x.1.length).drew1.c0
      have q1 := (HP.out.set (ka x.1) x.1.length).drew1.c1
      refine bodyPost_ret (v := .tuple #[.agg #[.int .u32 (ka x.1), .int .i64 x.1.length], .int .i64 x.2, .bool true]) (by simp [results, Tryd.results11, go_sem, q0, q1]) rfl ⟨rfl, ?_⟩
      exact ((HX.out.setCell (p := ⟨w.heap.size, 0, none⟩) (Nat.le_refl _) _).setCell (p := ⟨w.heap.size, 1, none⟩) (Nat.le_refl _) _).drew

/-- what Above and From answer: a function value over a box with rows -/
def toldV (Bs : Nat) : Value := .func (.func 60) #[] #[.pointer (some ⟨Bs, 0, none⟩)]

/-- a function value that tells rows -/
structure Told (W : World) (B : Nat) (v : Value) (L : List (Key × Int)) : Prop where
  ex : ∃ (Bs g o cap : Nat) (base : Option Addr), v = toldV Bs ∧ B ≤ Bs ∧ W.heap[Bs]? = some (.cells #[.slice base L.length cap] 71) ∧ RL W base g o L ∧ L.length ≤ cap
theorem Told.below {W W' : World} {B : Nat} {v : Value} {L : List (Key × Int)} (h : Told W B v L) (hb : Below W.heap.size W W') : Told W' B v L := by
  obtain ⟨Bs, g, o, cap, base, h1, h2, h3, h4, h5⟩ := h.ex
  exact ⟨Bs, g, o, cap, base, h1, h2, (hb.block Bs (Array.getElem?_eq_some_iff.1 h3).1).trans h3, h4.below hb, h5⟩
theorem Told.mk' {W : World} {B g o cap : Nat} {base : Option Addr} {L : List (Key × Int)} (h : RL W base g o L) (hc : L.length ≤ cap) (hB : B ≤ W.heap.size) : Told (W.alloc (.cells #[.slice base L.length cap] 71)) B (toldV W.heap.size) L :=
  ⟨_, g, o, cap, base, rfl, hB, World.alloc_heap_new W _, h.below ((Below.refl _ W).alloc (Nat.le_refl _) _), hc⟩

set_option maxRecDepth 100000 in
set_option maxHeartbeats 2000000 in
theorem Above_any (q : Nat) (t : TT) (p : Key) (w : World) (h : TrS w q t) (hR : RelsAt w) (hp : p.length ≤ 32) :
    Calls Tryd.prog 13 #[.pointer (some ⟨q, 0, none⟩), .agg #[.int .u32 (ka p), .int .i64 p.length]] w fun e w' => ∃ v, e = .returned v ∧ Told w' w.heap.size v (t.above p) ∧ Below w.heap.size w w' := by
  have b0 : Below w.heap.size w (w.alloc (.cells #[.int .u32 (ka p), .int .i64 p.length] 26)) := (Below.refl _ w).alloc (Nat.le_refl _) _
  have h1 := h.below b0
  have h2 := hR.below b0
  have hN := Lib.hid (none_t q t _ h1)
  have HB0 := Lib.hid b0
  have H1 := Lib.hid h1
  have H2 := Lib.hid h2
  have hC := Lib.hid (Check_t (ka p) p.length (w.alloc (.cells #[.int .u32 (ka p), .int .i64 p.length] 26)) (ka_right hp))
  clear h h1 h2 hR b0
  go_enter Tryd.func13, Tryd.ntmps13
  go_wp2_with (first
    | (go_at_call 34; with_reducible refine hN.out.mono ?_; rintro e w' ⟨rfl, rfl⟩)
    | (go_at_call 36; with_reducible refine hC.out.mono ?_; rintro e w1 ⟨rfl, hb⟩; have HB1 := Lib.hid hb
       have e0 := (hb.cell (p := ⟨w.heap.size, 0, none⟩) (by simp)).trans (show (w.alloc (.cells #[.int .u32 (ka p), .int .i64 p.length] 26)).cell? ⟨w.heap.size, 0, none⟩ = some (.int .u32 (ka p)) by simp [go_sem])
       have e1 := (hb.cell (p := ⟨w.heap.size, 1, none⟩) (by simp)).trans (show (w.alloc (.cells #[.int .u32 (ka p), .int .i64 p.length] 26)).cell? ⟨w.heap.size, 1, none⟩ = some (.int .i64 p.length) by simp [go_sem])
       have h3 := H1.out.below hb
       have hA := Lib.hid (above_any q p t (by omega) h3.keysLen h3.dp _ h3.at h3.lt (H2.out.below hb))
       clear hb h3)
    | (go_at_call 35; with_reducible refine hA.out.mono ?_; rintro e w2 ⟨v, rfl, hrow, hb⟩; have HB := Lib.hid hb; have HW := Lib.hid hrow; clear hb hrow
       obtain ⟨base, g, cap, rfl, hrl, hbg, hcap⟩ := rl_of_row HW.out (by have := HB.out.size; have := HB1.out.size; simp at this; omega)
       have HRl := Lib.hid hrl
       clear hrl)
    | (go_at_call 37; with_reducible refine (told_any _ _ _ _ rfl _).mono ?_; rintro e w' ⟨rfl, rfl⟩)
    | fail)
  go_ret
  have z1 := HB1.out.size
  have z2 := HB.out.size
  simp at z1
  have b2 : Below w.heap.size w w2 := (HB0.out.trans (HB1.out.mono (by simp))).trans (HB.out.mono (by omega))
  exact ⟨_, rfl, Told.mk' HRl.out hcap b2.size, b2.alloc b2.size _⟩

theorem Told.nil {W : World} (h : 0 < W.heap.size) {B : Nat} (hB : B ≤ W.heap.size) : Told (W.alloc (.cells #[.slice none 0 0] 71)) B (toldV W.heap.size) [] := Told.mk' (RL.none h 0) (by simp) hB

set_option maxRecDepth 100000 in
set_option maxHeartbeats 2000000 in
theorem Above_arg (q : Nat) (t : TT) (a n : Int) (w : World) (h : TrS w q t) (hr : rightB a n = false) :
    Calls Tryd.prog 13 #[.pointer (some ⟨q, 0, none⟩), .agg #[.int .u32 a, .int .i64 n]] w fun e w' => ∃ v, e = .returned v ∧ Told w' w.heap.size v [] ∧ Below w.heap.size w w' := by
  have b0 : Below w.heap.size w (w.alloc (.cells #[.int .u32 a, .int .i64 n] 26)) := (Below.refl _ w).alloc (Nat.le_refl _) _
  have hN := Lib.hid (none_t q t _ (h.below b0))
  have HB0 := Lib.hid b0
  have hC := Lib.hid (Check_f a n (w.alloc (.cells #[.int .u32 a, .int .i64 n] 26)) hr)
  clear h b0
  go_enter Tryd.func13, Tryd.ntmps13
  go_wp2_with (first
    | (go_at_call 34; with_reducible refine hN.out.mono ?_; rintro e w' ⟨rfl, rfl⟩)
    | (go_at_call 36; with_reducible refine hC.out.mono ?_; rintro e w1 ⟨rfl, hb⟩; have HB1 := Lib.hid hb; clear hb)
    | (go_at_call 37; with_reducible refine (told_any _ _ _ _ rfl _).mono ?_; rintro e w' ⟨rfl, rfl⟩)
    | fail)
  go_ret
  have z1 := HB1.out.size
  simp at z1
  have b2 : Below w.heap.size w w1 := HB0.out.trans (HB1.out.mono (by simp))
  exact ⟨_, rfl, Told.nil (by omega) b2.size, b2.alloc b2.size _⟩

set_option maxRecDepth 100000 in
set_option maxHeartbeats 2000000 in
theorem Above_nil (a n : Int) (w : World) :
    Calls Tryd.prog 13 #[.pointer none, .agg #[.int .u32 a, .int .i64 n]] w fun e w' => ∃ v, e = .returned v ∧ Told w' w.heap.size v [] ∧ Below w.heap.size w w' := by
  have b0 : Below w.heap.size w (w.alloc (.cells #[.int .u32 a, .int .i64 n] 26)) := (Below.refl _ w).alloc (Nat.le_refl _) _
  have HB0 := Lib.hid b0
  clear b0
  go_enter Tryd.func13, Tryd.ntmps13
  go_wp2_with (first
    | (go_at_call 34; with_reducible refine (none_n _).mono ?_; rintro e w' ⟨rfl, rfl⟩)
    | (go_at_call 37; with_reducible refine (told_any _ _ _ _ rfl _).mono ?_; rintro e w' ⟨rfl, rfl⟩)
    | fail)
  go_ret
  exact ⟨_, rfl, (show w.heap.size + 1 = (w.alloc (.cells #[.int .u32 a, .int .i64 n] 26)).heap.size by simp) ▸ Told.nil (by simp) HB0.out.size, HB0.out.alloc HB0.out.size _⟩
end Go.Proofs.YtbacahoihkpkpaaDoor
