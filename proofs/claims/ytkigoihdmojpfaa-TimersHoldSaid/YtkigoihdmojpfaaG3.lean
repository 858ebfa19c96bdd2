/- The reference: Cancel, Pop, Same. -/
import Derived.Test.YtkigoihdmojpfaaG2
namespace Go.Proofs.Ytkigoihdmojpfaa
open Go.RowKit
open Go.Sort (grow)

theorem heap_setAt {W : World} {B : Nat} {cs : Array Value} {t : TypeId} (h : W.heap[B]? = some (.cells cs t (0, 0))) (o : Nat) (v : Value) : (W.setCell ⟨B, o, none⟩ v).heap[B]? = some (.cells (cs.setIfInBounds o v) t (0, 0)) := by
  obtain ⟨hlt, hk⟩ := Array.getElem?_eq_some_iff.1 h
  show (W.heap.modify B _)[B]? = _
  rw [Array.getElem?_eq_getElem (by rw [Array.size_modify]; exact hlt), Array.getElem_modify_self, hk]
  rfl
theorem set4_far {W : World} {b b' o o0 o1 o2 o3 : Nat} {u0 u1 u2 u3 : Value} (h : b ≠ b') : ((((W.setCell ⟨b', o0, none⟩ u0).setCell ⟨b', o1, none⟩ u1).setCell ⟨b', o2, none⟩ u2).setCell ⟨b', o3, none⟩ u3).cell? ⟨b, o, none⟩ = W.cell? ⟨b, o, none⟩ :=
  (set_far h).trans ((set_far h).trans ((set_far h).trans (set_far h)))
/-- what a call of the reference tells, and leaves -/
def RAns (w w' : World) (g : Nat) (was : Int) (had : Bool) (er : Int) (L' : List TR) (e : Ending) : Prop :=
  (∃ v' g', e = .returned (.tuple #[v', .int .i64 was, .bool had, .int .i64 er]) ∧ RT w' g' v' L' ∧ (g' = g ∨ w.heap.size ≤ g')) ∧ Below w.heap.size w w'

set_option maxRecDepth 100000 in
set_option maxHeartbeats 8000000 in
theorem rCancel_arg (v : Value) (g : Nat) (L : List TR) (k a n : Int) (w : World) (hS : RT w g v L) (a0 : 0 ≤ a) (a1 : a < 4294967296) (hr : rightT k a n = false) :
    Calls Try.prog 31 #[v, keyV k a n] w fun e w' => RAns w w' g 0 false 2 L e := by
  have HS0 := Lib.hid hS
  obtain ⟨base, cap, rfl, _, _⟩ := hS.ex
  have HT0 := Lib.hid (B3.start w (.slice base L.length cap) k a n (.slice none 0 0))
  have HK := Lib.hid (fun W => rRightT_any k a n W a0 a1)
  rw [hr] at HK
  unfold keyV at HK ⊢
  have c0 := HT0.out.b1.c0
  have c1 := HT0.out.b1.c1
  have c2 := HT0.out.b1.c2
  clear hr hS
  go_enter Try.func31, Try.ntmps31
  go_upto_region 1 with fail
  generalize (((w.alloc (.cells #[.slice base L.length cap] 37)).alloc (.cells #[.int .i64 k, .int .u32 a, .int .i64 n] 29)).alloc (.cells #[.slice none 0 0] 37)) = X at *
  go_upto_region 2 with (go_at_call 17; (with_reducible refine (HK.out _).mono ?_); rintro e w1 ⟨rfl, hb⟩; have HT := Lib.hid (HT0.out.below hb); have d0 := HT.out.b0.c; have e0 := HT.out.b2.c; have e1 := HT.out.b2.f; clear hb)
  go_wp2_with fail
  have hT := HT.out.set (.slice base L.length cap)
  generalize (w1.setCell ⟨w.heap.size + 1 + 1, 0, none⟩ (.slice base L.length cap)) = V at *
  have c0 := hT.b2.c
  exact bodyPost_ret (v := .tuple #[.agg #[.slice base L.length cap], .int .i64 0, .bool false, .int .i64 2]) (by simp [results, Try.results31, go_sem, c0]) rfl ⟨⟨_, g, rfl, HS0.out.below hT.bl, .inl rfl⟩, hT.bl⟩

set_option maxRecDepth 100000 in
set_option maxHeartbeats 8000000 in
theorem rCancel_ok (v : Value) (g : Nat) (L : List TR) (k a n : Int) (w : World) (hS : RT w g v L) (hl : L.length ≤ 1000) (a0 : 0 ≤ a) (a1 : a < 4294967296) (hr : rightT k a n = true) :
    Calls Try.prog 31 #[v, keyV k a n] w fun e w' => RAns w w' g (dueS L k a n).1 (dueS L k a n).2 0 (wo k a n L) e := by
  have HS0 := Lib.hid hS
  have HD := Lib.hid (fun W (h : RT W g v L) => rDue_any v g L k a n W h (by omega))
  have HO := Lib.hid (fun W (h : RT W g v L) => without_any v g L k a n W h hl)
  obtain ⟨base, cap, rfl, _, _⟩ := hS.ex
  have HT0 := Lib.hid (B3.start w (.slice base L.length cap) k a n (.slice none 0 0))
  have HK := Lib.hid (fun W => rRightT_any k a n W a0 a1)
  rw [hr] at HK
  unfold keyV at HK HD HO ⊢
  have c0 := HT0.out.b1.c0
  have c1 := HT0.out.b1.c1
  have c2 := HT0.out.b1.c2
  clear hr hS
  obtain ⟨was, hwas⟩ : ∃ x, x = (dueS L k a n).1 := ⟨_, rfl⟩
  obtain ⟨had, hhad⟩ : ∃ x, x = (dueS L k a n).2 := ⟨_, rfl⟩
  rw [← hwas, ← hhad] at HD ⊢
  clear hwas hhad
  go_enter Try.func31, Try.ntmps31
  go_upto_region 1 with fail
  have HSz := Lib.hid (show (((w.alloc (.cells #[.slice base L.length cap] 37)).alloc (.cells #[.int .i64 k, .int .u32 a, .int .i64 n] 29)).alloc (.cells #[.slice none 0 0] 37)).heap.size = w.heap.size + 1 + 1 + 1 by simp)
  generalize (((w.alloc (.cells #[.slice base L.length cap] 37)).alloc (.cells #[.int .i64 k, .int .u32 a, .int .i64 n] 29)).alloc (.cells #[.slice none 0 0] 37)) = X at *
  go_upto_region 3 with (go_at_call 17; (with_reducible refine (HK.out _).mono ?_); rintro e w1 ⟨rfl, hb⟩; have HT := Lib.hid (HT0.out.below hb); clear c0 c1 c2; have d0 := HT.out.b0.c; have c0 := HT.out.b1.c0; have c1 := HT.out.b1.c1; have c2 := HT.out.b1.c2; have HX1 := Lib.hid hb.size; clear hb)
  go_upto_region 4 with (go_at_call 14; (with_reducible refine (HD.out _ (HS0.out.below HT.out.bl)).mono ?_); rintro e w2 ⟨rfl, hb⟩; have HT2 := Lib.hid (HT.out.below hb); clear c0 c1 c2 d0; have d0 := HT2.out.b0.c; have c0 := HT2.out.b1.c0; have c1 := HT2.out.b1.c1; have c2 := HT2.out.b1.c2; clear hb)
  go_wp2_with (go_at_call 48; (with_reducible refine (HO.out _ (HS0.out.below HT2.out.bl)).mono ?_); rintro e w3 ⟨⟨v', g', rfl, hrt, hg⟩, hb⟩; obtain ⟨b', k', rfl, _, _⟩ := hrt.ex; have HRt := Lib.hid hrt; have HG := Lib.hid hg; have HT3 := Lib.hid (HT2.out.below hb); clear c0 c1 c2 d0; have e0 := HT3.out.b2.c; have e1 := HT3.out.b2.f; clear hb hrt hg)
  have hT := HT3.out.set (.slice b' (wo k a n L).length k')
  have hsz := HT2.out.sz
  have hR := HRt.out.of_block (Below.heap_setCell w3 ⟨w.heap.size + 1 + 1, 0, none⟩ (.slice b' (wo k a n L).length k') g' (show g' ≠ w.heap.size + 1 + 1 by have := HG.out; omega))
  generalize (w3.setCell ⟨w.heap.size + 1 + 1, 0, none⟩ (.slice b' (wo k a n L).length k')) = V at *
  have c0 := hT.b2.c
  exact bodyPost_ret (v := .tuple #[.agg #[.slice b' (wo k a n L).length k'], .int .i64 was, .bool had, .int .i64 0]) (by simp [results, Try.results31, go_sem, c0]) rfl ⟨⟨_, g', rfl, hR, .inr (by have := HG.out; omega)⟩, hT.bl⟩

/-- what the reference's Pop tells -/
def popR (L : List TR) (now : Int) : Value := match L with
  | [] => rowV ⟨0, 0, 0, 0⟩
  | x :: _ => if now < x.due then rowV ⟨0, 0, 0, 0⟩ else rowV x
def popB (L : List TR) (now : Int) : Bool := match L with
  | [] => false
  | x :: _ => if now < x.due then false else true
def PAns (w w' : World) (g : Nat) (r : Value) (b : Bool) (L' : List TR) (e : Ending) : Prop :=
  (∃ v' g', e = .returned (.tuple #[v', r, .bool b]) ∧ RT w' g' v' L' ∧ (g' = g ∨ w.heap.size ≤ g')) ∧ Below w.heap.size w w'

/-- the boxes of the reference's Pop -/
structure PB (w W : World) (v v' : Value) (r : TR) : Prop where
  b0 : OneB W w.heap.size v 37
  b1 : OneB W (w.heap.size + 1) v' 37
  b2 : W.heap[w.heap.size + 1 + 1]? = some (.cells #[.int .i64 r.kind, .int .u32 r.addr, .int .i64 r.len, .int .i64 r.due] 45 (0, 0))
  bl : Below w.heap.size w W
theorem PB.start (w : World) (v v' : Value) : PB w (((w.alloc (.cells #[v] 37)).alloc (.cells #[v'] 37)).alloc (.cells #[.int .i64 0, .int .u32 0, .int .i64 0, .int .i64 0] 45)) v v' ⟨0, 0, 0, 0⟩ := by
  refine ⟨((OneB.new w v 37).alloc _).alloc _, ?_, ?_, (((Below.refl _ _).alloc (Nat.le_refl _) _).alloc (by simp) _).alloc (by simp; omega) _⟩
  · have := (OneB.new (w.alloc (.cells #[v] 37)) v' 37).alloc (.cells #[.int .i64 0, .int .u32 0, .int .i64 0, .int .i64 0] 45)
    simpa using this
  · have := heap_alloc_new ((w.alloc (.cells #[v] 37)).alloc (.cells #[v'] 37)) (.cells #[.int .i64 0, .int .u32 0, .int .i64 0, .int .i64 0] 45)
    simpa using this
section
variable {w W : World} {v v' : Value} {r : TR} (h : PB w W v v' r)
include h
theorem PB.sz : w.heap.size + 1 + 1 < W.heap.size := (Array.getElem?_eq_some_iff.1 h.b2).1
theorem PB.below {W' : World} (hb : Below W.heap.size W W') : PB w W' v v' r := ⟨h.b0.below hb, h.b1.below hb, (hb.block _ h.sz).trans h.b2, bthen h.bl hb⟩
theorem PB.set1 (u : Value) : PB w (W.setCell ⟨w.heap.size + 1, 0, none⟩ u) v u r :=
  ⟨h.b0.other (by omega), h.b1.set u, (Below.heap_setCell W _ u _ (by simp)).trans h.b2, h.bl.setCell (p := ⟨w.heap.size + 1, 0, none⟩) (by simp) _⟩
theorem PB.c0 : W.cell? ⟨w.heap.size + 1 + 1, 0, none⟩ = some (.int .i64 r.kind) := by simp [World.cell?, h.b2]
theorem PB.c1 : W.cell? ⟨w.heap.size + 1 + 1, 1, none⟩ = some (.int .u32 r.addr) := by simp [World.cell?, h.b2]
theorem PB.c2 : W.cell? ⟨w.heap.size + 1 + 1, 2, none⟩ = some (.int .i64 r.len) := by simp [World.cell?, h.b2]
theorem PB.c3 : W.cell? ⟨w.heap.size + 1 + 1, 3, none⟩ = some (.int .i64 r.due) := by simp [World.cell?, h.b2]
theorem PB.f (o : Nat) : W.frozen? ⟨w.heap.size + 1 + 1, o, none⟩ = false := by simp [World.frozen?, h.b2]
theorem PB.set2 (s : TR) : PB w ((((W.setCell ⟨w.heap.size + 1 + 1, 0, none⟩ (.int .i64 s.kind)).setCell ⟨w.heap.size + 1 + 1, 1, none⟩ (.int .u32 s.addr)).setCell ⟨w.heap.size + 1 + 1, 2, none⟩ (.int .i64 s.len)).setCell ⟨w.heap.size + 1 + 1, 3, none⟩ (.int .i64 s.due)) v v' s := by
  have hk : ∀ i, i ≠ w.heap.size + 1 + 1 → ((((W.setCell ⟨w.heap.size + 1 + 1, 0, none⟩ (.int .i64 s.kind)).setCell ⟨w.heap.size + 1 + 1, 1, none⟩ (.int .u32 s.addr)).setCell ⟨w.heap.size + 1 + 1, 2, none⟩ (.int .i64 s.len)).setCell ⟨w.heap.size + 1 + 1, 3, none⟩ (.int .i64 s.due)).heap[i]? = W.heap[i]? := fun i hi =>
    (Below.heap_setCell _ _ _ i hi).trans ((Below.heap_setCell _ _ _ i hi).trans ((Below.heap_setCell _ _ _ i hi).trans (Below.heap_setCell _ _ _ i hi)))
  refine ⟨(hk _ (by omega)).trans h.b0, (hk _ (by omega)).trans h.b1, ?_, (((h.bl.setCell (p := ⟨w.heap.size + 1 + 1, 0, none⟩) (by simp; omega) _).setCell (p := ⟨w.heap.size + 1 + 1, 1, none⟩) (by simp; omega) _).setCell (p := ⟨w.heap.size + 1 + 1, 2, none⟩) (by simp; omega) _).setCell (p := ⟨w.heap.size + 1 + 1, 3, none⟩) (by simp; omega) _⟩
  exact heap_setAt (heap_setAt (heap_setAt (heap_setAt h.b2 0 _) 1 _) 2 _) 3 _
end


set_option maxRecDepth 100000 in
set_option maxHeartbeats 8000000 in
theorem rPop_no (v : Value) (g : Nat) (L : List TR) (now : Int) (w : World) (hS : RT w g v L) (hl : L.length ≤ 1000) (h : ∀ x, L[0]? = some x → now < x.due) :
    Calls Try.prog 32 #[v, .int .i64 now] w fun e w' => PAns w w' g (rowV ⟨0, 0, 0, 0⟩) false L e := by
  have HS0 := Lib.hid hS
  obtain ⟨base, cap, rfl, hsl, _⟩ := hS.ex
  have hP := PB.start w (.slice base L.length cap) (.slice none 0 0)
  have HSl := Lib.hid (hsl.below hP.bl)
  have HP := Lib.hid hP
  clear hS hsl hP
  have fin : ∀ (X : World), PB w X (.slice base L.length cap) (.slice none 0 0) ⟨0, 0, 0, 0⟩ → PB w (((((X.setCell ⟨w.heap.size + 1, 0, none⟩ (.slice base L.length cap)).setCell ⟨w.heap.size + 1 + 1, 0, none⟩ (.int .i64 0)).setCell ⟨w.heap.size + 1 + 1, 1, none⟩ (.int .u32 0)).setCell ⟨w.heap.size + 1 + 1, 2, none⟩ (.int .i64 0)).setCell ⟨w.heap.size + 1 + 1, 3, none⟩ (.int .i64 0)) (.slice base L.length cap) (.slice base L.length cap) ⟨0, 0, 0, 0⟩ :=
    fun X hX => (hX.set1 _).set2 ⟨0, 0, 0, 0⟩
  have HFin := Lib.hid fin
  clear fin
  by_cases h0 : L.length = 0
  · have t1 : ((L.length : Int) == 0) = true := by simp [h0]
    clear h0 h
    have c0 := HP.out.b0.c
    go_enter Try.func32, Try.ntmps32
    go_upto_region 1 with fail
    generalize (((w.alloc (.cells #[.slice base L.length cap] 37)).alloc (.cells #[.slice none 0 0] 37)).alloc (.cells #[.int .i64 0, .int .u32 0, .int .i64 0, .int .i64 0] 45)) = X at *
    have e0 := HP.out.b1.c
    have e1 := HP.out.b1.f
    have e2 := HP.out.f
    have e3 := HP.out.c0
    have e4 := HP.out.c1
    have e5 := HP.out.c2
    have e6 := HP.out.c3
    go_wp2_with fail
    have hF := HFin.out X HP.out
    generalize (((((X.setCell ⟨w.heap.size + 1, 0, none⟩ (.slice base L.length cap)).setCell ⟨w.heap.size + 1 + 1, 0, none⟩ (.int .i64 0)).setCell ⟨w.heap.size + 1 + 1, 1, none⟩ (.int .u32 0)).setCell ⟨w.heap.size + 1 + 1, 2, none⟩ (.int .i64 0)).setCell ⟨w.heap.size + 1 + 1, 3, none⟩ (.int .i64 0)) = V at *
    clear c0 e0 e1 e2 e3 e4 e5 e6
    have c0 := hF.b1.c
    have e3 := hF.c0
    have e4 := hF.c1
    have e5 := hF.c2
    have e6 := hF.c3
    exact bodyPost_ret (v := .tuple #[.agg #[.slice base L.length cap], .agg #[.int .i64 0, .int .u32 0, .int .i64 0, .int .i64 0], .bool false]) (by simp [results, Try.results32, go_sem, c0, e3, e4, e5, e6]) rfl ⟨⟨_, g, rfl, HS0.out.below hF.bl, .inl rfl⟩, hF.bl⟩

  · obtain ⟨x, hx⟩ : ∃ x, L[0]? = some x := ⟨_, List.getElem?_eq_getElem (by omega)⟩
    have t2 : decide (now < x.due) = true := by simpa using h x hx
    have t1 : ((L.length : Int) == 0) = false := by simp only [beq_eq_false_iff_ne, ne_eq]; omega
    have i2 : (0 : Int) < (L.length : Int) := by omega
    have HX := Lib.hid hx
    clear h0 h hx
    have c0 := HP.out.b0.c
    go_enter Try.func32, Try.ntmps32
    go_upto_region 1 with fail
    generalize (((w.alloc (.cells #[.slice base L.length cap] 37)).alloc (.cells #[.slice none 0 0] 37)).alloc (.cells #[.int .i64 0, .int .u32 0, .int .i64 0, .int .i64 0] 45)) = X at *
    obtain ⟨rfl, z0, z1, z2, z3⟩ := HSl.out.row 0 x HX.out
    simp only [Nat.zero_add, Nat.zero_mul] at z0 z1 z2 z3
    clear z0 z1 z2
    have e0 := HP.out.b1.c
    have e1 := HP.out.b1.f
    have e2 := HP.out.f
    have e3 := HP.out.c0
    have e4 := HP.out.c1
    have e5 := HP.out.c2
    have e6 := HP.out.c3
    go_wp2_with fail
    have hF := HFin.out X HP.out
    generalize (((((X.setCell ⟨w.heap.size + 1, 0, none⟩ (.slice (some ⟨g, 0, none⟩) L.length cap)).setCell ⟨w.heap.size + 1 + 1, 0, none⟩ (.int .i64 0)).setCell ⟨w.heap.size + 1 + 1, 1, none⟩ (.int .u32 0)).setCell ⟨w.heap.size + 1 + 1, 2, none⟩ (.int .i64 0)).setCell ⟨w.heap.size + 1 + 1, 3, none⟩ (.int .i64 0)) = V at *
    clear c0 e0 e1 e2 e3 e4 e5 e6
    have c0 := hF.b1.c
    have e3 := hF.c0
    have e4 := hF.c1
    have e5 := hF.c2
    have e6 := hF.c3
    exact bodyPost_ret (v := .tuple #[.agg #[.slice (some ⟨g, 0, none⟩) L.length cap], .agg #[.int .i64 0, .int .u32 0, .int .i64 0, .int .i64 0], .bool false]) (by simp [results, Try.results32, go_sem, c0, e3, e4, e5, e6]) rfl ⟨⟨_, g, rfl, HS0.out.below hF.bl, .inl rfl⟩, hF.bl⟩


set_option maxRecDepth 100000 in
set_option maxHeartbeats 8000000 in
theorem rPop_yes (v : Value) (g : Nat) (L : List TR) (x : TR) (now : Int) (w : World) (hS : RT w g v L) (hl : L.length ≤ 1000) (hx : L[0]? = some x) (hd : ¬ now < x.due) :
    Calls Try.prog 32 #[v, .int .i64 now] w fun e w' => PAns w w' g (rowV x) true L.tail e := by
  obtain ⟨base, cap, rfl, hsl, hcap⟩ := hS.ex
  have hP := PB.start w (.slice base L.length cap) (.slice none 0 0)
  have HSl := Lib.hid (hsl.below hP.bl)
  have hgl := hsl.lt
  have HP := Lib.hid hP
  have hn := (List.getElem?_eq_some_iff.1 hx).1
  have t2 : decide (now < x.due) = false := by simpa using hd
  have t1 : ((L.length : Int) == 0) = false := by simp only [beq_eq_false_iff_ne, ne_eq]; omega
  have i2 : (0 : Int) < (L.length : Int) := by omega
  have HX := Lib.hid hx
  have c0 := HP.out.b0.c
  clear hS hsl hP hd hx
  go_enter Try.func32, Try.ntmps32
  go_upto_region 1 with fail
  have HSz := Lib.hid (show (((w.alloc (.cells #[.slice base L.length cap] 37)).alloc (.cells #[.slice none 0 0] 37)).alloc (.cells #[.int .i64 0, .int .u32 0, .int .i64 0, .int .i64 0] 45)).heap.size = w.heap.size + 1 + 1 + 1 by simp)
  generalize (((w.alloc (.cells #[.slice base L.length cap] 37)).alloc (.cells #[.slice none 0 0] 37)).alloc (.cells #[.int .i64 0, .int .u32 0, .int .i64 0, .int .i64 0] 45)) = W at *
  obtain ⟨rfl, z0, z1, z2, z3⟩ := HSl.out.row 0 x HX.out
  simp only [Nat.zero_add, Nat.zero_mul] at z0 z1 z2 z3
  go_upto_region 3 with fail
  clear t1 t2
  obtain ⟨i0, hii, hz0, hz1, hz2⟩ := info_parts info45
  have SB := Lib.hid (fun W' (h : Below W.heap.size W W') => (HSl.out.below h).cut (k := 1) (cap := cap) (by omega) hcap)
  have hDL := Lib.hid (show (L.drop 1).length = L.length - 1 by simp)
  have s4 : (1 : Int) ≤ (cap : Int) := by omega
  have s5 : (1 : Int) ≤ (L.length : Int) := by omega
  have s6 : (L.length : Int) ≤ (cap : Int) := by omega
  have x0 := HP.out.sz
  have x1 : w.heap.size < W.heap.size := by omega
  have x2 : w.heap.size + 1 < W.heap.size := by omega
  have n1 : w.heap.size ≠ w.heap.size + 1 := by omega
  have n2 : g ≠ w.heap.size + 1 := by omega
  have n3 : w.heap.size ≠ w.heap.size + 1 + 1 := by omega
  have n4 : g ≠ w.heap.size + 1 + 1 := by omega
  by_cases hc : cap = 1
  · have hc' := Lib.hid hc
    subst hc
    have hDL := Lib.hid (show (L.drop 1).length = 0 by simp; omega)
    have BA : Below W.heap.size W (W.alloc (.cells #[] 45)).drew := ((Below.refl _ W).alloc (Nat.le_refl _) _).drew
    have RA : (W.alloc (.cells #[] 45)).drew.ownsRow W.heap.size 45 4 (.slice (some ⟨W.heap.size, 0, none⟩) 0 0) 0 [] := World.ownsRow_made W #[] 0 (Nat.le_refl _) (by unfold maxLen; omega) rfl
    have HBA := Lib.hid BA
    have HRA := Lib.hid RA
    clear BA RA
    have SB1 := Lib.hid (show Src (W.alloc (.cells #[] 45)).drew (some ⟨g, 0, none⟩) 0 4 (tCs (L.drop 1)) from by
      have := SB.out _ HBA.out
      rwa [if_pos rfl, show L.length - 1 = 0 by omega] at this)
    go_region_held3 (fun w' => w'.cell? ⟨w.heap.size, 0, none⟩ = some (.slice (some ⟨g, 0, none⟩) L.length 1) ∧ w'.cell? ⟨g, 0, none⟩ = some (.int .i64 x.kind) ∧ w'.cell? ⟨g, 1, none⟩ = some (.int .u32 x.addr) ∧ w'.cell? ⟨g, 2, none⟩ = some (.int .i64 x.len) ∧ w'.cell? ⟨g, 3, none⟩ = some (.int .i64 x.due))
      (first | with_reducible exact ⟨(set4_far n3).trans ((set_far n1).trans k0), (set4_far n4).trans ((set_far n2).trans k1), (set4_far n4).trans ((set_far n2).trans k2), (set4_far n4).trans ((set_far n2).trans k3), (set4_far n4).trans ((set_far n2).trans k4)⟩ | with_reducible exact ⟨(set_far n1).trans k0, (set_far n2).trans k1, (set_far n2).trans k2, (set_far n2).trans k3, (set_far n2).trans k4⟩ | with_reducible exact ⟨k0, k1, k2, k3, k4⟩ | go_keep)
      ((refine step_append_src _ (by rfl) _ _ _ (by rfl) W.heap.size 45 i0 _ 4 32 Try.underlying35 hii hz0 hz1 hz2 rfl (by omega) (.slice (some ⟨W.heap.size, 0, none⟩) 0 0) 0 [] (by rfl) HRA.out (some ⟨g, 0, none⟩) 0 0 (tCs (L.drop 1)) (Or.inl (by simp)) (by rfl) SB1.out (tCs_one _) 0 (by omega) (tCs (L.drop 1)) (by rfl) (by unfold maxLen; omega) (by omega) HBA.out.size ?_; intro g1 c1 w7 hown1 hgrow1 hg1 hat1; have hB := HBA.out.grown hgrow1 HBA.out.size (fun k e => by simp [Value.ownBlock] at e; omega); have HO1 := Lib.hid hown1; have HG1 := Lib.hid hg1; have k0 := cellL hB c0; have k1 := cellL hB z0; have k2 := cellL hB z1; have k3 := cellL hB z2; have k4 := cellL hB z3; have hx9 := HP.out.below hB; have e0 := hx9.b1.c; have e1 := hx9.b1.f; have e2 := hx9.f; have e3 := hx9.c0; have e4 := hx9.c1; have e5 := hx9.c2; have e6 := hx9.c3; have HX9 := Lib.hid hx9; clear hown1 hgrow1 hg1 hat1 hx9))
    all_goals
      clear e0 e1 e2 e3 e4 e5 e6 k0 k1 k2 k3 k4
      have hrow := rt_of_row (L := L.drop 1) (by rw [hDL.out]; exact HO1.out) (by have := HO1.out.lt g1 rfl; omega)
      obtain ⟨g2, b2, cp2, hv2, hRT, hg2, hg3⟩ := hrow
      clear hv2
      have hg4 := HO1.out.lt
      have hV : PB w (((((w7.setCell ⟨w.heap.size + 1, 0, none⟩ (.slice (some ⟨g1, 0, none⟩) 0 c1)).setCell ⟨w.heap.size + 1 + 1, 0, none⟩ (.int .i64 x.kind)).setCell ⟨w.heap.size + 1 + 1, 1, none⟩ (.int .u32 x.addr)).setCell ⟨w.heap.size + 1 + 1, 2, none⟩ (.int .i64 x.len)).setCell ⟨w.heap.size + 1 + 1, 3, none⟩ (.int .i64 x.due)) _ _ x := (HX9.out.set1 _).set2 x
      have hK : (((((w7.setCell ⟨w.heap.size + 1, 0, none⟩ (.slice (some ⟨g1, 0, none⟩) 0 c1)).setCell ⟨w.heap.size + 1 + 1, 0, none⟩ (.int .i64 x.kind)).setCell ⟨w.heap.size + 1 + 1, 1, none⟩ (.int .u32 x.addr)).setCell ⟨w.heap.size + 1 + 1, 2, none⟩ (.int .i64 x.len)).setCell ⟨w.heap.size + 1 + 1, 3, none⟩ (.int .i64 x.due)).heap[g2]? = w7.heap[g2]? := by
        have hge : W.heap.size ≤ g2 := by
          rcases hg3 with e | e
          · omega
          · exact (hg4 g2 e).1
        have hw := HSz.out
        exact (Below.heap_setCell _ _ _ g2 (show g2 ≠ w.heap.size + 1 + 1 by omega)).trans ((Below.heap_setCell _ _ _ g2 (show g2 ≠ w.heap.size + 1 + 1 by omega)).trans ((Below.heap_setCell _ _ _ g2 (show g2 ≠ w.heap.size + 1 + 1 by omega)).trans ((Below.heap_setCell _ _ _ g2 (show g2 ≠ w.heap.size + 1 + 1 by omega)).trans (Below.heap_setCell _ _ _ g2 (show g2 ≠ w.heap.size + 1 by omega)))))
      have hR := hRT.of_block hK
      go_wp2_with fail
      generalize (((((w7.setCell ⟨w.heap.size + 1, 0, none⟩ (.slice (some ⟨g1, 0, none⟩) 0 c1)).setCell ⟨w.heap.size + 1 + 1, 0, none⟩ (.int .i64 x.kind)).setCell ⟨w.heap.size + 1 + 1, 1, none⟩ (.int .u32 x.addr)).setCell ⟨w.heap.size + 1 + 1, 2, none⟩ (.int .i64 x.len)).setCell ⟨w.heap.size + 1 + 1, 3, none⟩ (.int .i64 x.due)) = V at *
      have q0 := hV.b1.c
      have q1 := hV.c0
      have q2 := hV.c1
      have q3 := hV.c2
      have q4 := hV.c3
      refine bodyPost_ret (v := .tuple #[.agg #[.slice (some ⟨g1, 0, none⟩) 0 c1], .agg #[.int .i64 x.kind, .int .u32 x.addr, .int .i64 x.len, .int .i64 x.due], .bool true]) (by simp [results, Try.results32, go_sem, q0, q1, q2, q3, q4]) rfl ⟨⟨_, g2, rfl, by rw [← List.drop_one]; exact hR, .inr (by omega)⟩, hV.bl⟩

  · have hc' := Lib.hid hc
    obtain ⟨c', rfl⟩ : ∃ c', cap = c' + 2 := ⟨cap - 2, by omega⟩
    clear hc
    have BA : Below W.heap.size W (W.alloc (.cells #[] 45)).drew := ((Below.refl _ W).alloc (Nat.le_refl _) _).drew
    have RA : (W.alloc (.cells #[] 45)).drew.ownsRow W.heap.size 45 4 (.slice (some ⟨W.heap.size, 0, none⟩) 0 0) 0 [] := World.ownsRow_made W #[] 0 (Nat.le_refl _) (by unfold maxLen; omega) rfl
    have HBA := Lib.hid BA
    have HRA := Lib.hid RA
    clear BA RA
    have SB1 := Lib.hid (show Src (W.alloc (.cells #[] 45)).drew (some ⟨g, 4, none⟩) (L.length - 1) 4 (tCs (L.drop 1)) from by
      have := SB.out _ HBA.out
      rw [if_neg hc'.out] at this
      simpa [add0] using this)
    go_region_held3 (fun w' => w'.cell? ⟨w.heap.size, 0, none⟩ = some (.slice (some ⟨g, 0, none⟩) L.length (c' + 2)) ∧ w'.cell? ⟨g, 0, none⟩ = some (.int .i64 x.kind) ∧ w'.cell? ⟨g, 1, none⟩ = some (.int .u32 x.addr) ∧ w'.cell? ⟨g, 2, none⟩ = some (.int .i64 x.len) ∧ w'.cell? ⟨g, 3, none⟩ = some (.int .i64 x.due))
      (first | with_reducible exact ⟨(set4_far n3).trans ((set_far n1).trans k0), (set4_far n4).trans ((set_far n2).trans k1), (set4_far n4).trans ((set_far n2).trans k2), (set4_far n4).trans ((set_far n2).trans k3), (set4_far n4).trans ((set_far n2).trans k4)⟩ | with_reducible exact ⟨(set_far n1).trans k0, (set_far n2).trans k1, (set_far n2).trans k2, (set_far n2).trans k3, (set_far n2).trans k4⟩ | with_reducible exact ⟨k0, k1, k2, k3, k4⟩ | go_keep)
      ((refine step_append_src _ (by rfl) _ _ _ (by rfl) W.heap.size 45 i0 _ 4 32 Try.underlying35 hii hz0 hz1 hz2 rfl (by omega) (.slice (some ⟨W.heap.size, 0, none⟩) 0 0) 0 [] (by rfl) HRA.out (some ⟨g, 4, none⟩) (L.length - 1) (c' + 1) (tCs (L.drop 1)) (Or.inl (by simp)) (by rfl) SB1.out (tCs_one _) (L.length - 1) (by omega) (tCs (L.drop 1)) (by rfl) (by unfold maxLen; omega) (by omega) HBA.out.size ?_; intro g1 c1 w7 hown1 hgrow1 hg1 hat1; have hB := HBA.out.grown hgrow1 HBA.out.size (fun k e => by simp [Value.ownBlock] at e; omega); have HO1 := Lib.hid hown1; have HG1 := Lib.hid hg1; have k0 := cellL hB c0; have k1 := cellL hB z0; have k2 := cellL hB z1; have k3 := cellL hB z2; have k4 := cellL hB z3; have hx9 := HP.out.below hB; have e0 := hx9.b1.c; have e1 := hx9.b1.f; have e2 := hx9.f; have e3 := hx9.c0; have e4 := hx9.c1; have e5 := hx9.c2; have e6 := hx9.c3; have HX9 := Lib.hid hx9; clear hown1 hgrow1 hg1 hat1 hx9))
    all_goals
      clear e0 e1 e2 e3 e4 e5 e6 k0 k1 k2 k3 k4
      have hrow := rt_of_row (L := L.drop 1) (by rw [hDL.out]; exact HO1.out) (by have := HO1.out.lt g1 rfl; omega)
      obtain ⟨g2, b2, cp2, hv2, hRT, hg2, hg3⟩ := hrow
      clear hv2
      have hg4 := HO1.out.lt
      have hV : PB w (((((w7.setCell ⟨w.heap.size + 1, 0, none⟩ (.slice (some ⟨g1, 0, none⟩) (L.length - 1) c1)).setCell ⟨w.heap.size + 1 + 1, 0, none⟩ (.int .i64 x.kind)).setCell ⟨w.heap.size + 1 + 1, 1, none⟩ (.int .u32 x.addr)).setCell ⟨w.heap.size + 1 + 1, 2, none⟩ (.int .i64 x.len)).setCell ⟨w.heap.size + 1 + 1, 3, none⟩ (.int .i64 x.due)) _ _ x := (HX9.out.set1 _).set2 x
      have hK : (((((w7.setCell ⟨w.heap.size + 1, 0, none⟩ (.slice (some ⟨g1, 0, none⟩) (L.length - 1) c1)).setCell ⟨w.heap.size + 1 + 1, 0, none⟩ (.int .i64 x.kind)).setCell ⟨w.heap.size + 1 + 1, 1, none⟩ (.int .u32 x.addr)).setCell ⟨w.heap.size + 1 + 1, 2, none⟩ (.int .i64 x.len)).setCell ⟨w.heap.size + 1 + 1, 3, none⟩ (.int .i64 x.due)).heap[g2]? = w7.heap[g2]? := by
        have hge : W.heap.size ≤ g2 := by
          rcases hg3 with e | e
          · omega
          · exact (hg4 g2 e).1
        have hw := HSz.out
        exact (Below.heap_setCell _ _ _ g2 (show g2 ≠ w.heap.size + 1 + 1 by omega)).trans ((Below.heap_setCell _ _ _ g2 (show g2 ≠ w.heap.size + 1 + 1 by omega)).trans ((Below.heap_setCell _ _ _ g2 (show g2 ≠ w.heap.size + 1 + 1 by omega)).trans ((Below.heap_setCell _ _ _ g2 (show g2 ≠ w.heap.size + 1 + 1 by omega)).trans (Below.heap_setCell _ _ _ g2 (show g2 ≠ w.heap.size + 1 by omega)))))
      have hR := hRT.of_block hK
      go_wp2_with fail
      generalize (((((w7.setCell ⟨w.heap.size + 1, 0, none⟩ (.slice (some ⟨g1, 0, none⟩) (L.length - 1) c1)).setCell ⟨w.heap.size + 1 + 1, 0, none⟩ (.int .i64 x.kind)).setCell ⟨w.heap.size + 1 + 1, 1, none⟩ (.int .u32 x.addr)).setCell ⟨w.heap.size + 1 + 1, 2, none⟩ (.int .i64 x.len)).setCell ⟨w.heap.size + 1 + 1, 3, none⟩ (.int .i64 x.due)) = V at *
      have q0 := hV.b1.c
      have q1 := hV.c0
      have q2 := hV.c1
      have q3 := hV.c2
      have q4 := hV.c3
      refine bodyPost_ret (v := .tuple #[.agg #[.slice (some ⟨g1, 0, none⟩) (L.length - 1) c1], .agg #[.int .i64 x.kind, .int .u32 x.addr, .int .i64 x.len, .int .i64 x.due], .bool true]) (by simp [results, Try.results32, go_sem, q0, q1, q2, q3, q4]) rfl ⟨⟨_, g2, rfl, by rw [← List.drop_one]; exact hR, .inr (by omega)⟩, hV.bl⟩

end Go.Proofs.Ytkigoihdmojpfaa
