/- The reference: a list in order in memory; Right, Time, ahead, Due. -/
import Derived.Test.YtkigoihdmojpfaaM3
import Derived.Test.YtkigoihdmojpfaaK8
import Derived.Test.YtkigoihdmojpfaaU0
namespace Go.Proofs.Ytkigoihdmojpfaa
open Go.RowKit
open Go.Sort (grow)

/-- the reference's queue: the list behind it -/
structure RT (W : World) (g : Nat) (v : Value) (L : List TR) : Prop where
  ex : ∃ (base : Option Addr) (cap : Nat), v = .agg #[.slice base L.length cap] ∧ SL W base g 0 L ∧ L.length ≤ cap
theorem RT.of_block {W W' : World} {g : Nat} {v : Value} {L : List TR} (h : RT W g v L) (e : W'.heap[g]? = W.heap[g]?) : RT W' g v L := by
  obtain ⟨base, cap, h1, h2, h3⟩ := h.ex
  exact ⟨base, cap, h1, h2.of_block e, h3⟩
theorem RT.lt {W : World} {g : Nat} {v : Value} {L : List TR} (h : RT W g v L) : g < W.heap.size := by
  obtain ⟨base, cap, h1, h2, h3⟩ := h.ex
  exact h2.lt
theorem RT.below {W W' : World} {g : Nat} {v : Value} {L : List TR} (h : RT W g v L) (hb : Below W.heap.size W W') : RT W' g v L := h.of_block (hb.block g h.lt)
theorem RT.nil {W : World} {g : Nat} (h : g < W.heap.size) : RT W g (.agg #[.slice none 0 0]) [] := ⟨none, 0, rfl, ⟨h, fun i r hr => by simp at hr⟩, by simp⟩

set_option maxRecDepth 100000 in
set_option maxHeartbeats 1000000 in
theorem rTime_any (d : Int) (w : World) : Calls Try.prog 47 #[.int .i64 d] w fun e w' => e = .returned (.bool (decide (0 ≤ d ∧ d ≤ 4611686018427387904))) ∧ w = w' := by
  by_cases h1 : 0 ≤ d
  · have t1 : decide (0 ≤ d) = true := by simp [h1]
    by_cases h2 : d ≤ 4611686018427387904
    · have t2 : decide (d ≤ 4611686018427387904) = true := by simp [h2]
      have H := Lib.hid (show decide (0 ≤ d ∧ d ≤ 4611686018427387904) = true by simp [h1, h2])
      clear h1 h2
      go_enter Try.func47, Try.ntmps47
      go_wp2
      go_ret
      exact ⟨ret_bool H.out.symm, rfl⟩
    · have t2 : decide (d ≤ 4611686018427387904) = false := by simp; omega
      have H := Lib.hid (show decide (0 ≤ d ∧ d ≤ 4611686018427387904) = false by simp; omega)
      clear h1 h2
      go_enter Try.func47, Try.ntmps47
      go_wp2
      go_ret
      exact ⟨ret_bool H.out.symm, rfl⟩
  · have t1 : decide (0 ≤ d) = false := by simp; omega
    have H := Lib.hid (show decide (0 ≤ d ∧ d ≤ 4611686018427387904) = false by simp; omega)
    clear h1
    go_enter Try.func47, Try.ntmps47
    go_wp2
    go_ret
    exact ⟨ret_bool H.out.symm, rfl⟩

set_option maxRecDepth 100000 in
set_option maxHeartbeats 4000000 in
theorem rRightT_any (k a n : Int) (w : World) (a0 : 0 ≤ a) (a1 : a < 4294967296) :
    Calls Try.prog 17 #[keyV k a n] w fun e w' => e = .returned (.bool (rightT k a n)) ∧ Below w.heap.size w w' := by
  unfold keyV
  by_cases h3 : k = 3
  · subst h3
    rw [rightT_3]
    have HR := Lib.hid (fun W => rRight_any a n W a0 a1)
    go_enter Try.func17, Try.ntmps17
    go_wp2_with (go_at_call 38; (with_reducible refine (HR.out _).mono ?_); rintro e w2 ⟨rfl, hb⟩; have HB := Lib.hid hb; clear hb)
    go_ret
    exact ⟨rfl, bthen (below1 _ _) HB.out⟩
  · have t3 : (k == 3) = false := by simpa using h3
    by_cases h1 : k = 1
    · subst h1
      rw [rightT_12 (.inl rfl)]
      by_cases ha : a = 0
      · subst ha
        by_cases hn : n = 0
        · subst hn
          go_enter Try.func17, Try.ntmps17
          go_wp2_with fail
          go_ret
          exact ⟨rfl, below1 _ _⟩
        · have t4 : (n == 0) = false := by simpa using hn
          have H := Lib.hid (show (decide ((0:Int) = 0) && decide (n = 0)) = false by simp [hn])
          clear hn
          go_enter Try.func17, Try.ntmps17
          go_wp2_with fail
          go_ret
          exact ⟨ret_bool H.out.symm, below1 _ _⟩
      · have t4 : (a == 0) = false := by simpa using ha
        have H := Lib.hid (show (decide (a = 0) && decide (n = 0)) = false by simp [ha])
        clear ha
        go_enter Try.func17, Try.ntmps17
        go_wp2_with fail
        go_ret
        exact ⟨ret_bool H.out.symm, below1 _ _⟩
    · have t1 : (k == 1) = false := by simpa using h1
      by_cases h2 : k = 2
      · subst h2
        rw [rightT_12 (.inr rfl)]
        by_cases ha : a = 0
        · subst ha
          by_cases hn : n = 0
          · subst hn
            go_enter Try.func17, Try.ntmps17
            go_wp2_with fail
            go_ret
            exact ⟨rfl, below1 _ _⟩
          · have t4 : (n == 0) = false := by simpa using hn
            have H := Lib.hid (show (decide ((0:Int) = 0) && decide (n = 0)) = false by simp [hn])
            clear hn
            go_enter Try.func17, Try.ntmps17
            go_wp2_with fail
            go_ret
            exact ⟨ret_bool H.out.symm, below1 _ _⟩
        · have t4 : (a == 0) = false := by simpa using ha
          have H := Lib.hid (show (decide (a = 0) && decide (n = 0)) = false by simp [ha])
          clear ha
          go_enter Try.func17, Try.ntmps17
          go_wp2_with fail
          go_ret
          exact ⟨ret_bool H.out.symm, below1 _ _⟩
      · have t2 : (k == 2) = false := by simpa using h2
        have H := Lib.hid (rightT_no (a := a) (n := n) (show ¬ (k = 1 ∨ k = 2) by omega) h3)
        clear h1 h2 h3
        go_enter Try.func17, Try.ntmps17
        go_wp2_with fail
        go_ret
        exact ⟨ret_bool H.out.symm, below1 _ _⟩

theorem ordR_lt (pa pn qa qn : Int) : decide (ordR pa pn qa qn < 0) = decide (pa < qa ∨ pa = qa ∧ pn < qn) := by
  unfold ordR
  rw [decide_eq_decide]
  repeat' split <;> omega
set_option maxRecDepth 100000 in
set_option maxHeartbeats 4000000 in
theorem ahead_any (r s : TR) (w : World) :
    Calls Try.prog 49 #[rowV r, rowV s] w fun e w' => e = .returned (.bool (ltT r s)) ∧ Below w.heap.size w w' := by
  obtain ⟨rk, ra, rn, rd⟩ := r
  obtain ⟨sk, sa, sn, sd⟩ := s
  unfold rowV
  simp only
  by_cases h1 : rd = sd
  · subst h1
    by_cases h2 : rk = sk
    · subst h2
      have H := Lib.hid (show ltT ⟨rk, ra, rn, rd⟩ ⟨rk, sa, sn, rd⟩ = decide (ordR ra rn sa sn < 0) by rw [ordR_lt]; unfold ltT; rw [decide_eq_decide]; simp)
      have HO := Lib.hid (fun W => rOrder_any ra rn sa sn W)
      go_enter Try.func49, Try.ntmps49
      go_wp2_with (go_at_call 57; (with_reducible refine (HO.out _).mono ?_); rintro e w2 ⟨rfl, hb⟩; have HB := Lib.hid hb; clear hb)
      go_ret
      exact ⟨ret_bool H.out.symm, bthen (below2 _ _ _) HB.out⟩
    · have t2 : (rk == sk) = false := by simpa using h2
      have H := Lib.hid (show ltT ⟨rk, ra, rn, rd⟩ ⟨sk, sa, sn, rd⟩ = decide (rk < sk) by unfold ltT; rw [decide_eq_decide]; simp; omega)
      clear h2
      go_enter Try.func49, Try.ntmps49
      go_wp2_with fail
      go_ret
      exact ⟨ret_bool H.out.symm, below2 _ _ _⟩
  · have t1 : (rd == sd) = false := by simpa using h1
    have H := Lib.hid (show ltT ⟨rk, ra, rn, rd⟩ ⟨sk, sa, sn, sd⟩ = decide (rd < sd) by unfold ltT; rw [decide_eq_decide]; simp; omega)
    clear h1
    go_enter Try.func49, Try.ntmps49
    go_wp2_with fail
    go_ret
    exact ⟨ret_bool H.out.symm, below2 _ _ _⟩
end Go.Proofs.Ytkigoihdmojpfaa
