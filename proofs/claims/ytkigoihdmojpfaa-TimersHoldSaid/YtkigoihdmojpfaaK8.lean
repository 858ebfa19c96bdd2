/- timers.Check; queues in memory: none, New, Len. -/
import Derived.Test.YtkigoihdmojpfaaK4
namespace Go.Proofs.Ytkigoihdmojpfaa
open Go.RowKit

set_option maxRecDepth 100000 in
set_option maxHeartbeats 1000000 in
theorem isOf2 (b : Nat) (k x y : Int) (w : World) (c0 : w.cell? ⟨b, 0, none⟩ = some (.int .i64 x)) (c1 : w.cell? ⟨b, 1, none⟩ = some (.int .i64 y)) :
    Calls Try.prog 36 #[.int .i64 k, .slice (some ⟨b, 0, none⟩) 2 2] w fun e w' => e = .returned (.bool (decide (k = x ∨ k = y))) ∧ w = w' := by
  by_cases h1 : x = k
  · subst h1
    go_enter Try.func36, Try.ntmps36
    go_wp2
    refine wp_loop_rounds 3 ?_
    rw [rounds_succ]
    go_wp2
    go_ret
    exact ⟨ret_bool (by simp), rfl⟩
  · have t1 : (x == k) = false := by simpa using h1
    by_cases h2 : y = k
    · subst h2
      have H := Lib.hid h1
      clear h1
      go_enter Try.func36, Try.ntmps36
      go_wp2
      refine wp_loop_rounds 3 ?_
      rw [rounds_succ]
      go_wp2
      rw [rounds_succ]
      go_wp2
      go_ret
      exact ⟨ret_bool (by simp), rfl⟩
    · have t2 : (y == k) = false := by simpa using h2
      have H := Lib.hid (show decide (k = x ∨ k = y) = false by simp; omega)
      clear h1 h2
      go_enter Try.func36, Try.ntmps36
      go_wp2
      refine wp_loop_rounds 3 ?_
      rw [rounds_succ]
      go_wp2
      rw [rounds_succ]
      go_wp2
      rw [rounds_succ]
      go_wp2
      go_ret
      exact ⟨ret_bool H.out.symm, rfl⟩
set_option maxRecDepth 100000 in
set_option maxHeartbeats 1000000 in
theorem isOf1 (b : Nat) (k x : Int) (w : World) (c0 : w.cell? ⟨b, 0, none⟩ = some (.int .i64 x)) :
    Calls Try.prog 36 #[.int .i64 k, .slice (some ⟨b, 0, none⟩) 1 1] w fun e w' => e = .returned (.bool (decide (k = x))) ∧ w = w' := by
  by_cases h1 : x = k
  · subst h1
    go_enter Try.func36, Try.ntmps36
    go_wp2
    refine wp_loop_rounds 3 ?_
    rw [rounds_succ]
    go_wp2
    go_ret
    exact ⟨ret_bool (by simp), rfl⟩
  · have t1 : (x == k) = false := by simpa using h1
    have H := Lib.hid (show decide (k = x) = false by simp; omega)
    clear h1
    go_enter Try.func36, Try.ntmps36
    go_wp2
    refine wp_loop_rounds 3 ?_
    rw [rounds_succ]
    go_wp2
    rw [rounds_succ]
    go_wp2
    go_ret
    exact ⟨ret_bool H.out.symm, rfl⟩

theorem rightT_12 {k a n : Int} (h : k = 1 ∨ k = 2) : rightT k a n = (decide (a = 0) && decide (n = 0)) := by
  unfold rightT
  rw [if_neg (by omega)]
  rcases h with rfl | rfl <;> rfl
theorem rightT_3 {a n : Int} : rightT 3 a n = rightB a n := rfl
theorem rightT_no {k a n : Int} (h1 : ¬ (k = 1 ∨ k = 2)) (h3 : k ≠ 3) : rightT k a n = false := by
  unfold rightT
  rw [if_neg h3, decide_eq_false (show ¬ k = 1 by omega), decide_eq_false (show ¬ k = 2 by omega)]
  rfl
def chkT (k a n : Int) : Int := if rightT k a n then 0 else 2
theorem below1 (w : World) (o : Obj) : Below w.heap.size w (w.alloc o) := (Below.refl _ w).alloc (Nat.le_refl _) _
theorem below2 (w : World) (o o' : Obj) : Below w.heap.size w ((w.alloc o).alloc o') := (below1 w o).alloc (by simp) _
theorem below3 (w : World) (o o' o'' : Obj) : Below w.heap.size w (((w.alloc o).alloc o').alloc o'') := (below2 w o o').alloc (by simp; omega) _

set_option maxRecDepth 100000 in
set_option maxHeartbeats 4000000 in
theorem CheckT_any (k a n : Int) (w : World) :
    Calls Try.prog 16 #[keyV k a n] w fun e w' => e = .returned (.int .i64 (chkT k a n)) ∧ Below w.heap.size w w' := by
  unfold keyV
  by_cases h12 : k = 1 ∨ k = 2
  · by_cases h0 : a = 0 ∧ n = 0
    · obtain ⟨rfl, rfl⟩ := h0
      have HF := Lib.hid (show chkT k 0 0 = 0 by unfold chkT; rw [rightT_12 h12]; rfl)
      have hd : decide (k = 1 ∨ k = 2) = true := by simp [h12]
      have H2 := fun b w c0 c1 => isOf2 b k 1 2 w c0 c1
      rw [hd] at H2
      have HI := Lib.hid H2
      clear h12 hd H2
      go_enter Try.func16, Try.ntmps16
      go_wp2_with fail
      go_step3
      go_wp2_with (go_at_call 36; refine (HI.out _ _ ?_ ?_).mono ?_)
      · simp [go_sem]
      · simp [go_sem]
      rintro e w' ⟨rfl, rfl⟩
      go_wp2
      rw [Exit.noGoto_ret]
      go_ret
      exact ⟨ret_int HF.out.symm, below2 _ _ _⟩
    · have HF := Lib.hid (show chkT k a n = 2 by unfold chkT; rw [rightT_12 h12, if_neg (by simp; omega)])
      have hd : decide (k = 1 ∨ k = 2) = true := by simp [h12]
      have H2 := fun b w c0 c1 => isOf2 b k 1 2 w c0 c1
      rw [hd] at H2
      have HI := Lib.hid H2
      clear h12 hd H2
      go_enter Try.func16, Try.ntmps16
      go_wp2_with fail
      refine wp_scope_fwd 0 rfl ?_
      go_wp2_with (go_at_call 36; refine (HI.out _ _ ?_ ?_).mono ?_)
      · simp [go_sem]
      · simp [go_sem]
      rintro e w' ⟨rfl, rfl⟩
      go_wp2
      all_goals
        go_wp2
        go_step3
        refine ⟨rfl, ?_⟩
        go_wp2
        rw [Exit.noGoto_ret]
        go_ret
        exact ⟨ret_int HF.out.symm, below2 _ _ _⟩
  · by_cases h3 : k = 3
    · cases hr : rightB a n with
      | true =>
        have HF := Lib.hid (show chkT k a n = 0 by unfold chkT; rw [h3, rightT_3, hr]; rfl)
        have HC := Lib.hid (fun w => Check_t a n w hr)
        have d1 : decide (k = 1 ∨ k = 2) = false := by simp; omega
        have d2 : decide (k = 3) = true := by simp [h3]
        have H1 := fun b w c0 c1 => isOf2 b k 1 2 w c0 c1
        have H2 := fun b w c0 => isOf1 b k 3 w c0
        rw [d1] at H1
        rw [d2] at H2
        have HI1 := Lib.hid H1
        have HI2 := Lib.hid H2
        clear h12 hr h3 d1 d2 H1 H2
        go_enter Try.func16, Try.ntmps16
        go_wp2_with fail
        go_step3
        go_wp2_with (first | (go_at_call 36; (with_reducible refine (HI1.out _ _ ?c0 ?c1).mono ?_); (case c0 => simp [go_sem]); (case c1 => simp [go_sem]); rintro e w' ⟨rfl, rfl⟩) | (go_at_call 36; (with_reducible refine (HI2.out _ _ ?c0).mono ?_); (case c0 => simp [go_sem]); rintro e w' ⟨rfl, rfl⟩) | (go_at_call 37; (with_reducible refine (HC.out _).mono ?_); rintro e w' ⟨rfl, hb⟩; have HB := Lib.hid hb; clear hb))
        rw [Exit.noGoto_ret]
        go_ret
        exact ⟨ret_int HF.out.symm, (below3 _ _ _ _).trans (HB.out.mono (by simp; omega))⟩
      | false =>
        have HF := Lib.hid (show chkT k a n = 2 by unfold chkT; rw [h3, rightT_3, hr]; rfl)
        have HC := Lib.hid (fun w => Check_f a n w hr)
        have d1 : decide (k = 1 ∨ k = 2) = false := by simp; omega
        have d2 : decide (k = 3) = true := by simp [h3]
        have H1 := fun b w c0 c1 => isOf2 b k 1 2 w c0 c1
        have H2 := fun b w c0 => isOf1 b k 3 w c0
        rw [d1] at H1
        rw [d2] at H2
        have HI1 := Lib.hid H1
        have HI2 := Lib.hid H2
        clear h12 hr h3 d1 d2 H1 H2
        go_enter Try.func16, Try.ntmps16
        go_wp2_with fail
        refine wp_scope_fwd 0 rfl ?_
        go_wp2_with (first | (go_at_call 36; (with_reducible refine (HI1.out _ _ ?c0 ?c1).mono ?_); (case c0 => simp [go_sem]); (case c1 => simp [go_sem]); rintro e w' ⟨rfl, rfl⟩) | (go_at_call 36; (with_reducible refine (HI2.out _ _ ?c0).mono ?_); (case c0 => simp [go_sem]); rintro e w' ⟨rfl, rfl⟩) | (go_at_call 37; (with_reducible refine (HC.out _).mono ?_); rintro e w' ⟨rfl, hb⟩; have HB := Lib.hid hb; clear hb))
        go_step3
        refine ⟨rfl, ?_⟩
        go_wp2
        rw [Exit.noGoto_ret]
        go_ret
        exact ⟨ret_int HF.out.symm, (below3 _ _ _ _).trans (HB.out.mono (by simp; omega))⟩
    · have HF := Lib.hid (show chkT k a n = 2 by unfold chkT; rw [rightT_no h12 h3]; rfl)
      have d1 : decide (k = 1 ∨ k = 2) = false := by simp; omega
      have d2 : decide (k = 3) = false := by simp [h3]
      have H1 := fun b w c0 c1 => isOf2 b k 1 2 w c0 c1
      have H2 := fun b w c0 => isOf1 b k 3 w c0
      rw [d1] at H1
      rw [d2] at H2
      have HI1 := Lib.hid H1
      have HI2 := Lib.hid H2
      clear h12 h3 d1 d2 H1 H2
      go_enter Try.func16, Try.ntmps16
      go_wp2_with fail
      refine wp_scope_fwd 0 rfl ?_
      go_wp2_with (first | (go_at_call 36; (with_reducible refine (HI1.out _ _ ?c0 ?c1).mono ?_); (case c0 => simp [go_sem]); (case c1 => simp [go_sem]); rintro e w' ⟨rfl, rfl⟩) | (go_at_call 36; (with_reducible refine (HI2.out _ _ ?c0).mono ?_); (case c0 => simp [go_sem]); rintro e w' ⟨rfl, rfl⟩))
      go_step3
      refine ⟨rfl, ?_⟩
      go_wp2
      rw [Exit.noGoto_ret]
      go_ret
      exact ⟨ret_int HF.out.symm, below3 _ _ _ _⟩

/-- a queue: its box at q, its rows at p -/
structure QS (W : World) (q p m : Nat) (v : Value) (L : List TR) : Prop where
  box : W.heap[q]? = some (.cells #[.pointer (some ⟨p, 0, none⟩)] 76 (0, 0))
  hs : HS W p m v L
  hp : Hp ltT L L.length
section
variable {W : World} {q p m : Nat} {v : Value} {L : List TR} (h : QS W q p m v L)
include h
theorem QS.qlt : q < W.heap.size := (Array.getElem?_eq_some_iff.1 h.box).1
theorem QS.c : W.cell? ⟨q, 0, none⟩ = some (.pointer (some ⟨p, 0, none⟩)) := by simp [World.cell?, h.box]
theorem QS.below {W' : World} (hb : Below W.heap.size W W') : QS W' q p m v L := ⟨(hb.block q h.qlt).trans h.box, h.hs.below hb, h.hp⟩
theorem QS.qp : q ≠ p := by
  intro e
  have := h.hs.box
  rw [← e, h.box] at this
  simp at this
theorem QS.qm : q ≠ m := by
  intro e
  obtain ⟨D, ⟨es, clock, hb, _⟩, _⟩ := h.hs.map
  rw [← e, h.box] at hb
  cases hb
theorem QS.qg {g : Nat} (hg : v.ownBlock = some g) : q ≠ g := by
  intro e
  obtain ⟨cur, hc⟩ := h.hs.own hg
  rw [← e, h.box] at hc
  simp at hc
theorem QS.qf : q ∉ foot p m v := by
  intro hm
  simp [foot] at hm
  rcases hm with h1 | h1 | h1
  · exact h.qp h1
  · exact h.qm h1
  · exact h.qg h1 rfl
end
set_option maxHeartbeats 400000 in
theorem none_t (q p : Nat) (w : World) (c0 : w.cell? ⟨q, 0, none⟩ = some (.pointer (some ⟨p, 0, none⟩))) :
    Calls Try.prog 35 #[.pointer (some ⟨q, 0, none⟩)] w fun e w' => e = .returned (.bool false) ∧ w = w' := by
  go_enter Try.func35, Try.ntmps35
  go_wp2
  go_ret
  exact ⟨rfl, rfl⟩
set_option maxHeartbeats 400000 in
theorem none_nil (w : World) :
    Calls Try.prog 35 #[.pointer none] w fun e w' => e = .returned (.bool true) ∧ w = w' := by
  go_enter Try.func35, Try.ntmps35
  go_wp2
  go_ret
  exact ⟨rfl, rfl⟩
set_option maxHeartbeats 400000 in
theorem New_any (w : World) :
    Calls Try.prog 9 #[] w fun e w' => (∃ q p m, e = .returned (.pointer (some ⟨q, 0, none⟩)) ∧ QS w' q p m (.slice none 0 0) [] ∧ w.heap.size ≤ q ∧ w.heap.size ≤ p ∧ w.heap.size ≤ m) ∧ Below w.heap.size w w' := by
  have hmm := @run_makeMap Try.prog
  go_enter Try.func9, Try.ntmps9
  go_wp2
  go_ret
  refine ⟨⟨w.heap.size + 2, w.heap.size + 1, w.heap.size, rfl, ?_, by omega, by omega, Nat.le_refl _⟩, below3 _ _ _ _⟩
  have b1 := heap_alloc_new (w.alloc (.map #[] 0)) (.cells #[.slice none 0 0, .map (some w.heap.size)] 74)
  have b2 := heap_alloc_new ((w.alloc (.map #[] 0)).alloc (.cells #[.slice none 0 0, .map (some w.heap.size)] 74)) (.cells #[.pointer (some ⟨w.heap.size + 1, 0, none⟩)] 76)
  simp only [World.size_alloc] at b1 b2
  refine ⟨b2, HS.of (n := 0) (D := .map []) ((heap_alloc_old _ _ (by simp)).trans b1) (World.ownsRow_nil _ _ _ _) (((World.ownsMap_made w Try.prog 29 _).alloc _).alloc _) tab_empty (fun r hr => by cases hr) List.Pairwise.nil, fun k h1 h2 => by simp at h2⟩
set_option maxHeartbeats 400000 in
theorem Len_any (q p m : Nat) (v : Value) (L : List TR) (w : World) (h : QS w q p m v L) :
    Calls Try.prog 23 #[.pointer (some ⟨q, 0, none⟩)] w fun e w' => e = .returned (.int .i64 L.length) ∧ w = w' := by
  have c0 := h.c
  have H := Lib.hid h
  clear h
  go_enter Try.func23, Try.ntmps23
  go_wp2_with (first | (go_at_call 35; (with_reducible refine (none_t _ _ _ H.out.c).mono ?_); rintro e w' ⟨rfl, rfl⟩) | (go_at_call 43; (with_reducible refine (rLen_any _ _ _ _ _ H.out.hs).mono ?_); rintro e w' ⟨rfl, rfl⟩))
  go_ret
  exact ⟨rfl, rfl⟩
set_option maxHeartbeats 400000 in
theorem Len_nil (w : World) :
    Calls Try.prog 23 #[.pointer none] w fun e w' => e = .returned (.int .i64 0) ∧ w = w' := by
  go_enter Try.func23, Try.ntmps23
  go_wp2_with (go_at_call 35; (with_reducible refine (none_nil _).mono ?_); rintro e w' ⟨rfl, rfl⟩)
  go_ret
  exact ⟨rfl, rfl⟩
end Go.Proofs.Ytkigoihdmojpfaa
