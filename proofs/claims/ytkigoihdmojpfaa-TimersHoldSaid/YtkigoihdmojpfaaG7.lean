/- The law's act: one call by both. (Printed by gen_g7.py.) -/
import Derived.Test.YtkigoihdmojpfaaG6
import Derived.Test.YtkigoihdmojpfaaW1
import Derived.Test.YtkigoihdmojpfaaC1
namespace Go.Proofs.Ytkigoihdmojpfaa
open Go.RowKit
open Go.Sort (grow)

/-- the three boxes of act -/
structure AB (w W : World) (v : Value) (wt k a n d : Int) : Prop where
  b0 : OneB W w.heap.size v 37
  b1 : W.heap[w.heap.size + 1]? = some (.cells #[.int .i64 wt, .int .i64 k, .int .u32 a, .int .i64 n, .int .i64 d] 31 (0, 0))
  b2 : OneB W (w.heap.size + 1 + 1) (.slice none 0 0) 37
  bl : Below w.heap.size w W
section
variable {w W : World} {v : Value} {wt k a n d : Int} (h : AB w W v wt k a n d)
include h
theorem AB.sz : w.heap.size + 1 + 1 < W.heap.size := h.b2.lt
theorem AB.below {W' : World} (hb : Below W.heap.size W W') : AB w W' v wt k a n d := ⟨h.b0.below hb, (hb.block _ (by have := h.sz; omega)).trans h.b1, h.b2.below hb, bthen h.bl hb⟩
theorem AB.a0 : W.cell? ⟨w.heap.size + 1, 0, none⟩ = some (.int .i64 wt) := by simp [World.cell?, h.b1]
theorem AB.a1 : W.cell? ⟨w.heap.size + 1, 1, none⟩ = some (.int .i64 k) := by simp [World.cell?, h.b1]
theorem AB.a2 : W.cell? ⟨w.heap.size + 1, 2, none⟩ = some (.int .u32 a) := by simp [World.cell?, h.b1]
theorem AB.a3 : W.cell? ⟨w.heap.size + 1, 3, none⟩ = some (.int .i64 n) := by simp [World.cell?, h.b1]
theorem AB.a4 : W.cell? ⟨w.heap.size + 1, 4, none⟩ = some (.int .i64 d) := by simp [World.cell?, h.b1]
end
theorem AB.start (w : World) (v : Value) (wt k a n d : Int) : AB w (((w.alloc (.cells #[v] 37)).alloc (.cells #[.int .i64 wt, .int .i64 k, .int .u32 a, .int .i64 n, .int .i64 d] 31)).alloc (.cells #[.slice none 0 0] 37)) v wt k a n d := by
  refine ⟨((OneB.new w v 37).alloc _).alloc _, ?_, ?_, (((Below.refl _ _).alloc (Nat.le_refl _) _).alloc (by simp) _).alloc (by simp; omega) _⟩
  · refine (Below.heap_alloc _ _ _ (by simp)).trans ?_
    have := World.alloc_heap_new (w.alloc (.cells #[v] 37)) (.cells #[.int .i64 wt, .int .i64 k, .int .u32 a, .int .i64 n, .int .i64 d] 31)
    rwa [World.size_alloc] at this
  · have := OneB.new ((w.alloc (.cells #[v] 37)).alloc (.cells #[.int .i64 wt, .int .i64 k, .int .u32 a, .int .i64 n, .int .i64 d] 31)) (.slice none 0 0) 37
    simpa using this

/-- the queue's answer -/
def QAns (w w' : World) (q : Nat) (F : List Nat) (was : Int) (had : Bool) (er : Int) (S' : List TR) (e : Ending) : Prop :=
  e = .returned (.tuple #[.int .i64 was, .bool had, .int .i64 er]) ∧ QNew w w' q F S'
def ArmB (q : Nat) (F : List Nat) (S : List TR) (g : Nat) (v : Value) (k a n d was : Int) (had : Bool) (er : Int) (S' : List TR) : Prop :=
  (∀ W, RT W g v S → Calls Try.prog 30 #[v, keyV k a n, .int .i64 d] W fun e w' => RAns W w' g was had er S' e) ∧
  (∀ W, Qu W q F S → Calls Try.prog 19 #[.pointer (some ⟨q, 0, none⟩), keyV k a n, .int .i64 d] W fun e w' => QAns W w' q F was had er S' e)
def CancelB (q : Nat) (F : List Nat) (S : List TR) (g : Nat) (v : Value) (k a n was : Int) (had : Bool) (er : Int) (S' : List TR) : Prop :=
  (∀ W, RT W g v S → Calls Try.prog 31 #[v, keyV k a n] W fun e w' => RAns W w' g was had er S' e) ∧
  (∀ W, Qu W q F S → Calls Try.prog 25 #[.pointer (some ⟨q, 0, none⟩), keyV k a n] W fun e w' => QAns W w' q F was had er S' e)
theorem wo_len (k a n : Int) (S : List TR) : (wo k a n S).length ≤ S.length := List.length_filter_le _ _
theorem armS_len (S : List TR) (r : TR) : (armS S r).length ≤ S.length + 1 := by
  have h1 := (insS_perm (wo r.kind r.addr r.len S) r).length_eq
  have h2 := wo_len r.kind r.addr r.len S
  unfold armS
  rw [h1]
  simp
  omega
theorem armB_ex (q : Nat) (F : List Nat) (S : List TR) (g : Nat) (v : Value) (k a n d : Int) (hk : KBt k a n) (hl : S.length < 1000) :
    ∃ was had er S', ArmB q F S g v k a n d was had er S' ∧ S'.length ≤ S.length + 1 := by
  by_cases hr : rightT k a n = true
  · by_cases hd : 0 ≤ d ∧ d ≤ 4611686018427387904
    · refine ⟨_, _, _, _, ⟨fun W h => rArm_ok v g S k a n d W h (by omega) hk.2.1.1 hk.2.1.2 hr hd, fun W h => ?_⟩, armS_len _ _⟩
      exact Arm_q q F S ⟨k, a, n, d⟩ W h ⟨hr, hk.2.1.1, hk.2.1.2, hd.1, hd.2⟩ (by omega)
    · refine ⟨_, _, _, _, ⟨fun W h => rArm_time v g S k a n d W h hk.2.1.1 hk.2.1.2 hr (by omega), fun W h => ?_⟩, by omega⟩
      obtain ⟨p, hc⟩ := h.c
      exact (Arm_time q p k a n d W hc hr (by omega)).mono fun e w' ⟨he, hb⟩ => ⟨he, QNew.same h hb⟩
  · have hr : rightT k a n = false := by simpa using hr
    refine ⟨_, _, _, _, ⟨fun W h => rArm_arg v g S k a n d W h hk.2.1.1 hk.2.1.2 hr, fun W h => ?_⟩, by omega⟩
    obtain ⟨p, hc⟩ := h.c
    exact (Arm_arg q p k a n d W hc hr).mono fun e w' ⟨he, hb⟩ => ⟨he, QNew.same h hb⟩
theorem cancelB_ex (q : Nat) (F : List Nat) (S : List TR) (g : Nat) (v : Value) (k a n : Int) (hk : KBt k a n) (hl : S.length < 1000) :
    ∃ was had er S', CancelB q F S g v k a n was had er S' ∧ S'.length ≤ S.length + 1 := by
  by_cases hr : rightT k a n = true
  · refine ⟨_, _, _, _, ⟨fun W h => rCancel_ok v g S k a n W h (by omega) hk.2.1.1 hk.2.1.2 hr, fun W h => Cancel_q q F S k a n W h hk hr (by omega)⟩, ?_⟩
    have := wo_len k a n S
    omega
  · have hr : rightT k a n = false := by simpa using hr
    refine ⟨_, _, _, _, ⟨fun W h => rCancel_arg v g S k a n W h hk.2.1.1 hk.2.1.2 hr, fun W h => ?_⟩, by omega⟩
    obtain ⟨p, hc⟩ := h.c
    exact (Cancel_arg q p k a n W hc hr).mono fun e w' ⟨he, hb⟩ => ⟨he, QNew.same h hb⟩

set_option maxRecDepth 100000 in
set_option maxHeartbeats 8000000 in
theorem act_arm (w0 : World) (q g : Nat) (F : List Nat) (S : List TR) (v : Value) (wt k a n d : Int) (w : World) (h : PW w0 w q F S g v) (hw : 0 ≤ wt ∧ wt ≤ 3) (hk : KBt k a n) (hl : S.length < 1000) :
    Calls Try.prog 10 #[.pointer (some ⟨q, 0, none⟩), v, .agg #[.int .i64 wt, .int .i64 k, .int .u32 a, .int .i64 n, .int .i64 d]] w fun e w' => ActP w0 w w' q F S g e := by
  obtain ⟨was, had, er, S', ⟨hR, hP⟩, hlen⟩ := armB_ex q F S g v k a n d hk hl
  unfold keyV at hR hP
  have HPW := Lib.hid h
  obtain ⟨base, cap, rfl, _, _⟩ := h.rt.ex
  have HAB0 := Lib.hid (AB.start w (.slice base S.length cap) wt k a n d)
  have HR := Lib.hid hR
  have HP := Lib.hid hP
  have HLen := Lib.hid hlen
  have c0 := HAB0.out.b0.c
  have c1 := HAB0.out.a0
  have c2 := HAB0.out.a1
  have c3 := HAB0.out.a2
  have c4 := HAB0.out.a3
  have c5 := HAB0.out.a4
  clear hR hP h hlen hk
  go_enter Try.func10, Try.ntmps10
  go_upto_region 1 with fail
  have HX := Lib.hid (show (((w.alloc (.cells #[.slice base S.length cap] 37)).alloc (.cells #[.int .i64 wt, .int .i64 k, .int .u32 a, .int .i64 n, .int .i64 d] 31)).alloc (.cells #[.slice none 0 0] 37)).heap.size = w.heap.size + 3 by simp)
  generalize (((w.alloc (.cells #[.slice base S.length cap] 37)).alloc (.cells #[.int .i64 wt, .int .i64 k, .int .u32 a, .int .i64 n, .int .i64 d] 31)).alloc (.cells #[.slice none 0 0] 37)) = X at *
  have HC := Lib.hid (And.intro c1 (And.intro c2 (And.intro c3 (And.intro c4 (And.intro c5 c0)))))
  clear c0 c1 c2 c3 c4 c5
  obtain rfl | rfl | rfl | rfl : wt = 0 ∨ wt = 1 ∨ wt = 2 ∨ wt = 3 := by omega
  all_goals
    obtain ⟨c1, c2, c3, c4, c5, c0⟩ := HC.out
    go_upto_region 8 with (first
      | (go_at_call 30; (with_reducible refine (HR.out _ (HPW.out.rt.below HAB0.out.bl)).mono ?_); rintro e2 w2 ⟨⟨v', g', rfl, hrt, hg⟩, hb⟩; obtain ⟨b', k', rfl, _, _⟩ := hrt.ex; have HRt := Lib.hid hrt; have HG := Lib.hid hg; have HB := Lib.hid hb; have HAB := Lib.hid (HAB0.out.below hb); clear c0 c1 c2 c3 c4 c5 hrt hg hb; have c2 := HAB.out.a1; have c3 := HAB.out.a2; have c4 := HAB.out.a3; have c5 := HAB.out.a4; have y1 : w.heap.size + 1 < w2.heap.size := (by have := HAB.out.sz; omega))
      | (go_at_call 19; (with_reducible refine (HP.out _ (HPW.out.qu.below (bthen HAB.out.bl ((Below.refl _ _).alloc (Nat.le_refl _) _)))).mono ?_); rintro e3 w3 ⟨rfl, hq⟩; have HQ := Lib.hid hq; clear c2 c3 c4 c5 hq)
      | fail)
    have hkp : ∀ i, w.heap.size ≤ i → i < w2.heap.size + 1 → w3.heap[i]? = (w2.alloc (.cells #[.slice b' S'.length k'] 37)).heap[i]? := fun i h1 h2 => by
      obtain ⟨_, _, _, k3⟩ := HQ.out
      exact k3.block i (by simpa using h2) (fun hm => by have := HPW.out.qu.foot_lt _ hm; omega)
    have hz := HAB.out.sz
    have b9 : OneB w3 w2.heap.size (.slice b' S'.length k') 37 := (hkp _ (by omega) (by omega)).trans (OneB.new w2 _ 37)
    have b2 : OneB w3 (w.heap.size + 1 + 1) (.slice none 0 0) 37 := (hkp _ (by omega) (by omega)).trans (HAB.out.b2.alloc _)
    have d9 := b9.c
    have d2 := b2.c
    have d3 := b2.f
    have hne : w2.heap.size ≠ w.heap.size + 1 + 1 := by omega
    have HB2 := Lib.hid b2
    clear hkp b9 b2
    go_region_held3 (fun w' => w'.cell? ⟨w2.heap.size, 0, none⟩ = some (.slice b' S'.length k'))
      (first | exact (set_far hne).trans d9 | go_keep)
      ((go_at_call 15; (with_reducible refine (num_any er _).mono ?_); rintro e4 w4 ⟨rfl, rfl⟩))
    all_goals
      go_wp2_with fail
      obtain ⟨F', hA, hF⟩ := Acted.mk2 (w4 := w3) HPW.out (bthen HAB0.out.bl HB.out) HRt.out (by rcases HG.out with e | e; exact .inl e; exact .inr (by have := HAB0.out.bl.size; omega)) ((Below.refl _ w2).alloc (Nat.le_refl _) _) HQ.out (Below.refl _ w3)
      have hA1 := hA.set (B := w.heap.size + 1 + 1) (by have := HPW.out.bl.size; omega) (by omega) (fun hm => by
        rcases hF _ hm with h5 | h5
        · have := HPW.out.qu.foot_lt _ h5; omega
        · simp at h5; omega) (by rcases HG.out with e | e; (have := HPW.out.rt.lt; omega); (have := HX.out; omega)) 0 (.slice b' S'.length k')
      have hA2 := hA1.below (Below.refl _ _).drew
      have hq : OneB (w3.setCell ⟨w.heap.size + 1 + 1, 0, none⟩ (.slice b' S'.length k')).drew (w.heap.size + 1 + 1) (.slice b' S'.length k') 37 := (OneB.set (.slice b' S'.length k') HB2.out).below (Below.refl _ _).drew
      generalize (w3.setCell ⟨w.heap.size + 1 + 1, 0, none⟩ (.slice b' S'.length k')).drew = V at *
      have q0 := hq.c
      exact bodyPost_ret (v := .tuple #[.pointer (some ⟨q, 0, none⟩), .agg #[.slice b' S'.length k'], .bool true]) (by simp [results, Try.results10, go_sem, q0]) rfl ⟨_, F', S', g', _, rfl, hA2, HLen.out⟩

set_option maxRecDepth 100000 in
set_option maxHeartbeats 8000000 in
theorem act_cancel (w0 : World) (q g : Nat) (F : List Nat) (S : List TR) (v : Value) (wt k a n d : Int) (w : World) (h : PW w0 w q F S g v) (hw : 4 ≤ wt ∧ wt ≤ 4) (hk : KBt k a n) (hl : S.length < 1000) :
    Calls Try.prog 10 #[.pointer (some ⟨q, 0, none⟩), v, .agg #[.int .i64 wt, .int .i64 k, .int .u32 a, .int .i64 n, .int .i64 d]] w fun e w' => ActP w0 w w' q F S g e := by
  obtain ⟨was, had, er, S', ⟨hR, hP⟩, hlen⟩ := cancelB_ex q F S g v k a n hk hl
  unfold keyV at hR hP
  have HPW := Lib.hid h
  obtain ⟨base, cap, rfl, _, _⟩ := h.rt.ex
  have HAB0 := Lib.hid (AB.start w (.slice base S.length cap) wt k a n d)
  have HR := Lib.hid hR
  have HP := Lib.hid hP
  have HLen := Lib.hid hlen
  have c0 := HAB0.out.b0.c
  have c1 := HAB0.out.a0
  have c2 := HAB0.out.a1
  have c3 := HAB0.out.a2
  have c4 := HAB0.out.a3
  have c5 := HAB0.out.a4
  clear hR hP h hlen hk
  go_enter Try.func10, Try.ntmps10
  go_upto_region 1 with fail
  have HX := Lib.hid (show (((w.alloc (.cells #[.slice base S.length cap] 37)).alloc (.cells #[.int .i64 wt, .int .i64 k, .int .u32 a, .int .i64 n, .int .i64 d] 31)).alloc (.cells #[.slice none 0 0] 37)).heap.size = w.heap.size + 3 by simp)
  generalize (((w.alloc (.cells #[.slice base S.length cap] 37)).alloc (.cells #[.int .i64 wt, .int .i64 k, .int .u32 a, .int .i64 n, .int .i64 d] 31)).alloc (.cells #[.slice none 0 0] 37)) = X at *
  have HC := Lib.hid (And.intro c1 (And.intro c2 (And.intro c3 (And.intro c4 (And.intro c5 c0)))))
  clear c0 c1 c2 c3 c4 c5
  obtain rfl : wt = 4 := by omega
  all_goals
    obtain ⟨c1, c2, c3, c4, c5, c0⟩ := HC.out
    go_upto_region 12 with (first
      | (go_at_call 31; (with_reducible refine (HR.out _ (HPW.out.rt.below HAB0.out.bl)).mono ?_); rintro e2 w2 ⟨⟨v', g', rfl, hrt, hg⟩, hb⟩; obtain ⟨b', k', rfl, _, _⟩ := hrt.ex; have HRt := Lib.hid hrt; have HG := Lib.hid hg; have HB := Lib.hid hb; have HAB := Lib.hid (HAB0.out.below hb); clear c0 c1 c2 c3 c4 c5 hrt hg hb; have c2 := HAB.out.a1; have c3 := HAB.out.a2; have c4 := HAB.out.a3; have c5 := HAB.out.a4; have y1 : w.heap.size + 1 < w2.heap.size := (by have := HAB.out.sz; omega))
      | (go_at_call 25; (with_reducible refine (HP.out _ (HPW.out.qu.below (bthen HAB.out.bl ((Below.refl _ _).alloc (Nat.le_refl _) _)))).mono ?_); rintro e3 w3 ⟨rfl, hq⟩; have HQ := Lib.hid hq; clear c2 c3 c4 c5 hq)
      | fail)
    have hkp : ∀ i, w.heap.size ≤ i → i < w2.heap.size + 1 → w3.heap[i]? = (w2.alloc (.cells #[.slice b' S'.length k'] 37)).heap[i]? := fun i h1 h2 => by
      obtain ⟨_, _, _, k3⟩ := HQ.out
      exact k3.block i (by simpa using h2) (fun hm => by have := HPW.out.qu.foot_lt _ hm; omega)
    have hz := HAB.out.sz
    have b9 : OneB w3 w2.heap.size (.slice b' S'.length k') 37 := (hkp _ (by omega) (by omega)).trans (OneB.new w2 _ 37)
    have b2 : OneB w3 (w.heap.size + 1 + 1) (.slice none 0 0) 37 := (hkp _ (by omega) (by omega)).trans (HAB.out.b2.alloc _)
    have d9 := b9.c
    have d2 := b2.c
    have d3 := b2.f
    have hne : w2.heap.size ≠ w.heap.size + 1 + 1 := by omega
    have HB2 := Lib.hid b2
    clear hkp b9 b2
    go_region_held3 (fun w' => w'.cell? ⟨w2.heap.size, 0, none⟩ = some (.slice b' S'.length k'))
      (first | exact (set_far hne).trans d9 | go_keep)
      ((go_at_call 15; (with_reducible refine (num_any er _).mono ?_); rintro e4 w4 ⟨rfl, rfl⟩))
    all_goals
      go_wp2_with fail
      obtain ⟨F', hA, hF⟩ := Acted.mk2 (w4 := w3) HPW.out (bthen HAB0.out.bl HB.out) HRt.out (by rcases HG.out with e | e; exact .inl e; exact .inr (by have := HAB0.out.bl.size; omega)) ((Below.refl _ w2).alloc (Nat.le_refl _) _) HQ.out (Below.refl _ w3)
      have hA1 := hA.set (B := w.heap.size + 1 + 1) (by have := HPW.out.bl.size; omega) (by omega) (fun hm => by
        rcases hF _ hm with h5 | h5
        · have := HPW.out.qu.foot_lt _ h5; omega
        · simp at h5; omega) (by rcases HG.out with e | e; (have := HPW.out.rt.lt; omega); (have := HX.out; omega)) 0 (.slice b' S'.length k')
      have hA2 := hA1.below (Below.refl _ _).drew
      have hq : OneB (w3.setCell ⟨w.heap.size + 1 + 1, 0, none⟩ (.slice b' S'.length k')).drew (w.heap.size + 1 + 1) (.slice b' S'.length k') 37 := (OneB.set (.slice b' S'.length k') HB2.out).below (Below.refl _ _).drew
      generalize (w3.setCell ⟨w.heap.size + 1 + 1, 0, none⟩ (.slice b' S'.length k')).drew = V at *
      have q0 := hq.c
      exact bodyPost_ret (v := .tuple #[.pointer (some ⟨q, 0, none⟩), .agg #[.slice b' S'.length k'], .bool true]) (by simp [results, Try.results10, go_sem, q0]) rfl ⟨_, F', S', g', _, rfl, hA2, HLen.out⟩

def PopB (q : Nat) (F : List Nat) (S : List TR) (g : Nat) (v : Value) (now : Int) (r : TR) (b : Bool) (S' : List TR) : Prop :=
  (∀ W, RT W g v S → Calls Try.prog 32 #[v, .int .i64 now] W fun e w' => PAns W w' g (rowV r) b S' e) ∧
  (∀ W, Qu W q F S → Calls Try.prog 21 #[.pointer (some ⟨q, 0, none⟩), .int .i64 now] W fun e w' => e = .returned (.tuple #[keyV r.kind r.addr r.len, .int .i64 r.due, .bool b]) ∧ QNew W w' q F S')
theorem popB_ex (q : Nat) (F : List Nat) (S : List TR) (g : Nat) (v : Value) (now : Int) (hl : S.length < 1000) :
    ∃ r b S', PopB q F S g v now r b S' ∧ S'.length ≤ S.length + 1 := by
  cases S with
  | nil =>
    refine ⟨⟨0, 0, 0, 0⟩, false, [], ⟨fun W h => rPop_no v g [] now W h (by simp) (fun x hx => by simp at hx), fun W h => ?_⟩, by simp⟩
    have := Pop_q q F [] now W h (by simp)
    simp only [popV, popS, zeroT] at this
    exact this
  | cons x T =>
    by_cases hd : now < x.due
    · refine ⟨⟨0, 0, 0, 0⟩, false, x :: T, ⟨fun W h => rPop_no v g (x :: T) now W h (by omega) (fun y hy => by simp at hy; subst hy; exact hd), fun W h => ?_⟩, by simp⟩
      have := Pop_q q F (x :: T) now W h (by omega)
      simp only [popV, popS, zeroT, if_pos hd] at this
      exact this
    · refine ⟨x, true, T, ⟨fun W h => rPop_yes v g (x :: T) x now W h (by omega) rfl hd, fun W h => ?_⟩, by simp; omega⟩
      have := Pop_q q F (x :: T) now W h (by omega)
      simp only [popV, popS, zeroT, if_neg hd] at this
      exact this

set_option maxRecDepth 100000 in
set_option maxHeartbeats 8000000 in
theorem act_pop (w0 : World) (q g : Nat) (F : List Nat) (S : List TR) (v : Value) (wt k a n d : Int) (w : World) (h : PW w0 w q F S g v) (hw : 5 ≤ wt ∧ wt ≤ 6) (hl : S.length < 1000) :
    Calls Try.prog 10 #[.pointer (some ⟨q, 0, none⟩), v, .agg #[.int .i64 wt, .int .i64 k, .int .u32 a, .int .i64 n, .int .i64 d]] w fun e w' => ActP w0 w w' q F S g e := by
  obtain ⟨r, b, S', ⟨hR, hP⟩, hlen⟩ := popB_ex q F S g v d hl
  unfold rowV at hR
  unfold keyV at hP
  have HPW := Lib.hid h
  obtain ⟨base, cap, rfl, _, _⟩ := h.rt.ex
  have HAB0 := Lib.hid (AB.start w (.slice base S.length cap) wt k a n d)
  have HR := Lib.hid hR
  have HP := Lib.hid hP
  have HLen := Lib.hid hlen
  have c0 := HAB0.out.b0.c
  have c1 := HAB0.out.a0
  have c5 := HAB0.out.a4
  clear hR hP h hlen
  go_enter Try.func10, Try.ntmps10
  go_upto_region 1 with fail
  have HX := Lib.hid (show (((w.alloc (.cells #[.slice base S.length cap] 37)).alloc (.cells #[.int .i64 wt, .int .i64 k, .int .u32 a, .int .i64 n, .int .i64 d] 31)).alloc (.cells #[.slice none 0 0] 37)).heap.size = w.heap.size + 3 by simp)
  generalize (((w.alloc (.cells #[.slice base S.length cap] 37)).alloc (.cells #[.int .i64 wt, .int .i64 k, .int .u32 a, .int .i64 n, .int .i64 d] 31)).alloc (.cells #[.slice none 0 0] 37)) = X at *
  have HC := Lib.hid (And.intro c1 (And.intro c5 c0))
  clear c0 c1 c5
  obtain rfl | rfl : wt = 5 ∨ wt = 6 := by omega
  all_goals
    obtain ⟨c1, c5, c0⟩ := HC.out
    go_upto_region 16 with (first
      | (go_at_call 32; (with_reducible refine (HR.out _ (HPW.out.rt.below HAB0.out.bl)).mono ?_); rintro e2 w2 ⟨⟨v', g', rfl, hrt, hg⟩, hb⟩; obtain ⟨b', k', rfl, _, _⟩ := hrt.ex; have HRt := Lib.hid hrt; have HG := Lib.hid hg; have HB := Lib.hid hb; have HAB := Lib.hid (HAB0.out.below hb); clear c0 c1 c5 hrt hg hb; have c5 := HAB.out.a4; have y1 : w.heap.size + 1 < w2.heap.size := (by have := HAB.out.sz; omega))
      | fail)
    have HY1 := Lib.hid (bthen (below1 w2 (.cells #[.slice b' S'.length k'] 37)) (below1 (w2.alloc (.cells #[.slice b' S'.length k'] 37)) (.cells #[.int .i64 r.kind, .int .u32 r.addr, .int .i64 r.len, .int .i64 r.due] 45)))
    have HY2 := Lib.hid (show OneB ((w2.alloc (.cells #[.slice b' S'.length k'] 37)).alloc (.cells #[.int .i64 r.kind, .int .u32 r.addr, .int .i64 r.len, .int .i64 r.due] 45)) w2.heap.size (.slice b' S'.length k') 37 from (OneB.new w2 _ 37).alloc _)
    have HY3 := Lib.hid (show ((w2.alloc (.cells #[.slice b' S'.length k'] 37)).alloc (.cells #[.int .i64 r.kind, .int .u32 r.addr, .int .i64 r.len, .int .i64 r.due] 45)).heap[w2.heap.size + 1]? = some (.cells #[.int .i64 r.kind, .int .u32 r.addr, .int .i64 r.len, .int .i64 r.due] 45 (0, 0)) by
      have := heap_alloc_new (w2.alloc (.cells #[.slice b' S'.length k'] 37)) (.cells #[.int .i64 r.kind, .int .u32 r.addr, .int .i64 r.len, .int .i64 r.due] 45)
      rwa [World.size_alloc] at this)
    have HY4 := Lib.hid (show ((w2.alloc (.cells #[.slice b' S'.length k'] 37)).alloc (.cells #[.int .i64 r.kind, .int .u32 r.addr, .int .i64 r.len, .int .i64 r.due] 45)).heap.size = w2.heap.size + 2 by simp)
    have c5' := cellL HY1.out c5
    clear c5
    generalize ((w2.alloc (.cells #[.slice b' S'.length k'] 37)).alloc (.cells #[.int .i64 r.kind, .int .u32 r.addr, .int .i64 r.len, .int .i64 r.due] 45)) = Y at *
    have HABy := Lib.hid (HAB.out.below HY1.out)
    go_upto_region 17 with (first
      | (go_at_call 21; (with_reducible refine (HP.out _ (HPW.out.qu.below HABy.out.bl)).mono ?_); rintro e3 w3 ⟨rfl, hq⟩; have HQ := Lib.hid hq; clear c5' hq)
      | fail)
    have hz := HAB.out.sz
    have hz4 := HY4.out
    have hz3 : Y.heap.size ≤ w3.heap.size := by
      obtain ⟨_, _, _, k3⟩ := HQ.out
      exact k3.size
    have hkp : ∀ i, w.heap.size ≤ i → i < Y.heap.size → w3.heap[i]? = Y.heap[i]? := fun i h1 h2 => by
      obtain ⟨_, _, _, k3⟩ := HQ.out
      exact k3.block i h2 (fun hm => by have := HPW.out.qu.foot_lt _ hm; omega)
    have HZ1 := Lib.hid (below1 w3 (.cells #[.int .i64 r.kind, .int .u32 r.addr, .int .i64 r.len] 29))
    have t29 : TBox (w3.alloc (.cells #[.int .i64 r.kind, .int .u32 r.addr, .int .i64 r.len] 29)) w3.heap.size r.kind r.addr r.len := TBox.new _ _ _ _
    have b9 : OneB (w3.alloc (.cells #[.int .i64 r.kind, .int .u32 r.addr, .int .i64 r.len] 29)) w2.heap.size (.slice b' S'.length k') 37 := OneB.alloc ((hkp _ (by omega) (by omega)).trans HY2.out) _
    have b2 : OneB (w3.alloc (.cells #[.int .i64 r.kind, .int .u32 r.addr, .int .i64 r.len] 29)) (w.heap.size + 1 + 1) (.slice none 0 0) 37 := OneB.alloc ((hkp _ (by omega) (by omega)).trans HABy.out.b2) _
    have hr45 : (w3.alloc (.cells #[.int .i64 r.kind, .int .u32 r.addr, .int .i64 r.len] 29)).heap[w2.heap.size + 1]? = some (.cells #[.int .i64 r.kind, .int .u32 r.addr, .int .i64 r.len, .int .i64 r.due] 45 (0, 0)) := (Below.heap_alloc w3 _ _ (by omega)).trans ((hkp _ (by omega) (by omega)).trans HY3.out)
    generalize hZ : (w3.alloc (.cells #[.int .i64 r.kind, .int .u32 r.addr, .int .i64 r.len] 29)) = Z at *
    clear hZ
    have d9 := b9.c
    have d2 := b2.c
    have d3 := b2.f
    have q0 := t29.c0
    have q1 := t29.c1
    have q2 := t29.c2
    have r0 : Z.cell? ⟨w2.heap.size + 1, 0, none⟩ = some (.int .i64 r.kind) := by simp [World.cell?, hr45]
    have r1 : Z.cell? ⟨w2.heap.size + 1, 1, none⟩ = some (.int .u32 r.addr) := by simp [World.cell?, hr45]
    have r2 : Z.cell? ⟨w2.heap.size + 1, 2, none⟩ = some (.int .i64 r.len) := by simp [World.cell?, hr45]
    have r3 : Z.cell? ⟨w2.heap.size + 1, 3, none⟩ = some (.int .i64 r.due) := by simp [World.cell?, hr45]
    have n1 : w2.heap.size ≠ w.heap.size + 1 + 1 := by omega
    have n2 : w2.heap.size + 1 ≠ w.heap.size + 1 + 1 := by omega
    have n3 : w3.heap.size ≠ w.heap.size + 1 + 1 := by omega
    have HB2 := Lib.hid b2
    clear hkp b9 b2 t29 hr45
    go_region_held3 (fun w' => w'.cell? ⟨w2.heap.size, 0, none⟩ = some (.slice b' S'.length k') ∧ w'.cell? ⟨w3.heap.size, 0, none⟩ = some (.int .i64 r.kind) ∧ w'.cell? ⟨w3.heap.size, 1, none⟩ = some (.int .u32 r.addr) ∧ w'.cell? ⟨w3.heap.size, 2, none⟩ = some (.int .i64 r.len) ∧ w'.cell? ⟨w2.heap.size + 1, 0, none⟩ = some (.int .i64 r.kind) ∧ w'.cell? ⟨w2.heap.size + 1, 1, none⟩ = some (.int .u32 r.addr) ∧ w'.cell? ⟨w2.heap.size + 1, 2, none⟩ = some (.int .i64 r.len) ∧ w'.cell? ⟨w2.heap.size + 1, 3, none⟩ = some (.int .i64 r.due))
      (first | exact ⟨(set_far n1).trans d9, (set_far n3).trans q0, (set_far n3).trans q1, (set_far n3).trans q2, (set_far n2).trans r0, (set_far n2).trans r1, (set_far n2).trans r2, (set_far n2).trans r3⟩ | go_keep)
      (fail)
    all_goals
      go_wp2_with fail
      obtain ⟨F', hA, hF⟩ := Acted.mk2 (w4 := Z) HPW.out (bthen HAB0.out.bl HB.out) HRt.out (by rcases HG.out with e | e; exact .inl e; exact .inr (by have := HAB0.out.bl.size; omega)) HY1.out HQ.out HZ1.out
      have hA1 := hA.set (B := w.heap.size + 1 + 1) (by have := HPW.out.bl.size; omega) (by omega) (fun hm => by
        rcases hF _ hm with h5 | h5
        · have := HPW.out.qu.foot_lt _ h5; omega
        · omega) (by rcases HG.out with e | e; (have := HPW.out.rt.lt; omega); (have := HX.out; omega)) 0 (.slice b' S'.length k')
      have hA2 := hA1.below (Below.refl _ _).drew
      have hq : OneB (Z.setCell ⟨w.heap.size + 1 + 1, 0, none⟩ (.slice b' S'.length k')).drew (w.heap.size + 1 + 1) (.slice b' S'.length k') 37 := (OneB.set (.slice b' S'.length k') HB2.out).below (Below.refl _ _).drew
      generalize (Z.setCell ⟨w.heap.size + 1 + 1, 0, none⟩ (.slice b' S'.length k')).drew = V at *
      have q0 := hq.c
      exact bodyPost_ret (v := .tuple #[.pointer (some ⟨q, 0, none⟩), .agg #[.slice b' S'.length k'], .bool true]) (by simp [results, Try.results10, go_sem, q0]) rfl ⟨_, F', S', g', _, rfl, hA2, HLen.out⟩

set_option maxRecDepth 100000 in
set_option maxHeartbeats 8000000 in
theorem act_copy (w0 : World) (q g : Nat) (F : List Nat) (S : List TR) (v : Value) (wt k a n d : Int) (w : World) (h : PW w0 w q F S g v) (hw : wt < 0 ∨ 6 < wt) (hl : S.length < 1000) :
    Calls Try.prog 10 #[.pointer (some ⟨q, 0, none⟩), v, .agg #[.int .i64 wt, .int .i64 k, .int .u32 a, .int .i64 n, .int .i64 d]] w fun e w' => ActP w0 w w' q F S g e := by
  have HC := Lib.hid (fun W (h : Qu W q F S) => Copy_q q F S W h (by omega))
  have HPW := Lib.hid h
  obtain ⟨base, cap, rfl, _, _⟩ := h.rt.ex
  have HAB0 := Lib.hid (AB.start w (.slice base S.length cap) wt k a n d)
  have c0 := HAB0.out.b0.c
  have c1 := HAB0.out.a0
  have d2 := HAB0.out.b2.c
  have d3 := HAB0.out.b2.f
  have t0 : (wt == 0) = false := by simp only [beq_eq_false_iff_ne, ne_eq]; omega
  have t1 : (wt == 1) = false := by simp only [beq_eq_false_iff_ne, ne_eq]; omega
  have t2 : (wt == 2) = false := by simp only [beq_eq_false_iff_ne, ne_eq]; omega
  have t3 : (wt == 3) = false := by simp only [beq_eq_false_iff_ne, ne_eq]; omega
  have t4 : (wt == 4) = false := by simp only [beq_eq_false_iff_ne, ne_eq]; omega
  have t5 : (wt == 5) = false := by simp only [beq_eq_false_iff_ne, ne_eq]; omega
  have t6 : (wt == 6) = false := by simp only [beq_eq_false_iff_ne, ne_eq]; omega
  clear h hw
  go_enter Try.func10, Try.ntmps10
  go_upto_region 1 with fail
  have HX := Lib.hid (show (((w.alloc (.cells #[.slice base S.length cap] 37)).alloc (.cells #[.int .i64 wt, .int .i64 k, .int .u32 a, .int .i64 n, .int .i64 d] 31)).alloc (.cells #[.slice none 0 0] 37)).heap.size = w.heap.size + 3 by simp)
  generalize (((w.alloc (.cells #[.slice base S.length cap] 37)).alloc (.cells #[.int .i64 wt, .int .i64 k, .int .u32 a, .int .i64 n, .int .i64 d] 31)).alloc (.cells #[.slice none 0 0] 37)) = X at *
  go_upto_region 18 with fail
  have n1 : w.heap.size ≠ w.heap.size + 1 + 1 := by omega
  have HXd := Lib.hid (HAB0.out.bl.drew)
  go_region_held3 (fun w' => w'.cell? ⟨w.heap.size, 0, none⟩ = some (.slice base S.length cap))
    (first | exact (set_far n1).trans k0 | with_reducible exact k0 | go_keep)
    ((go_at_call 24; (with_reducible refine (HC.out _ (HPW.out.qu.below HXd.out)).mono ?_); rintro e2 w2 ⟨⟨q', F', rfl, hq, hF⟩, hb⟩; have HQ := Lib.hid hq; have HF := Lib.hid hF; have HB := Lib.hid hb; have HAB2 := Lib.hid ((HAB0.out.below (Below.refl _ X).drew).below hb); have k0 := HAB2.out.b0.c; have k2 := HAB2.out.b2.c; have k3 := HAB2.out.b2.f; clear hq hF hb))
  all_goals
    have hbw := HAB2.out.bl
    have hge : ∀ c ∈ F', w.heap.size + 3 ≤ c := fun c hc => by
      have h1 : X.heap.size ≤ c := HF.out c hc
      have := HX.out
      omega
    have hA : Acted w0 w w2 q F g q' F' S g (.agg #[.slice base S.length cap]) :=
      ⟨⟨HQ.out, HPW.out.rt.below hbw, fun c hc => by have := hge c hc; have := HPW.out.bl.size; omega, fun hm => by have := hge g hm; have := HPW.out.rt.lt; omega, bthen HPW.out.bl hbw⟩, KB.of_below hbw, fun c hc => .inr (by have := hge c hc; omega), .inl rfl⟩
    have hA1 := hA.set (B := w.heap.size + 1 + 1) (by have := HPW.out.bl.size; omega) (by omega) (fun hm => by have := hge _ hm; omega) (by have := HPW.out.rt.lt; omega) 0 (.slice base S.length cap)
    have hq : OneB (w2.setCell ⟨w.heap.size + 1 + 1, 0, none⟩ (.slice base S.length cap)) (w.heap.size + 1 + 1) (.slice base S.length cap) 37 := OneB.set (.slice base S.length cap) HAB2.out.b2
    clear k0 k2 k3
    go_wp2_with fail
    generalize (w2.setCell ⟨w.heap.size + 1 + 1, 0, none⟩ (.slice base S.length cap)) = V at *
    have q0 := hq.c
    exact bodyPost_ret (v := .tuple #[.pointer (some ⟨q', 0, none⟩), .agg #[.slice base S.length cap], .bool true]) (by simp [results, Try.results10, go_sem, q0]) rfl ⟨_, F', S, g, _, rfl, hA1, by omega⟩

theorem act_any (w0 : World) (q g : Nat) (F : List Nat) (S : List TR) (v : Value) (wt k a n d : Int) (w : World) (h : PW w0 w q F S g v) (hk : KBt k a n) (hl : S.length < 1000) :
    Calls Try.prog 10 #[.pointer (some ⟨q, 0, none⟩), v, .agg #[.int .i64 wt, .int .i64 k, .int .u32 a, .int .i64 n, .int .i64 d]] w fun e w' => ActP w0 w w' q F S g e := by
  by_cases h1 : 0 ≤ wt ∧ wt ≤ 3
  · exact act_arm w0 q g F S v wt k a n d w h h1 hk hl
  · by_cases h2 : wt = 4
    · exact act_cancel w0 q g F S v wt k a n d w h (by omega) hk hl
    · by_cases h3 : 5 ≤ wt ∧ wt ≤ 6
      · exact act_pop w0 q g F S v wt k a n d w h h3 hl
      · exact act_copy w0 q g F S v wt k a n d w h (by omega) hl
end Go.Proofs.Ytkigoihdmojpfaa
