/- The reference: Hear of a new neighbour (not finished). -/
import Derived.Test.YtahkhecfnimdbaaDoorV7
namespace Go.Proofs.YtahkhecfnimdbaaDoor
open Go.RowKit Go.Maps

theorem ahead_step {f a : Int} {T : List Rec} {k : Nat} {r : Rec} (h : ∀ j, j < k → ∀ s, T[j]? = some s → ltB f a s = true) (hr : T[k]? = some r) (hn : ltB f a r = false) : ahead f a T = k := by
  induction T generalizing k with
  | nil => simp at hr
  | cons q T ih =>
    unfold ahead
    cases k with
    | zero =>
      simp at hr
      subst hr
      rw [List.takeWhile_cons_of_neg (by simp [hn])]
      rfl
    | succ k =>
      rw [List.takeWhile_cons_of_pos (h 0 (by omega) q rfl), List.length_cons]
      have := ih (k := k) (fun j hj s hs => h (j + 1) (by omega) s (by simpa using hs)) (by simpa using hr)
      unfold ahead at this
      rw [this]
theorem ahead_all {f a : Int} {T : List Rec} (h : ∀ j, j < T.length → ∀ s, T[j]? = some s → ltB f a s = true) : ahead f a T = T.length := by
  induction T with
  | nil => rfl
  | cons q T ih =>
    unfold ahead
    rw [List.takeWhile_cons_of_pos (h 0 (by simp) q rfl), List.length_cons, List.length_cons]
    have := ih (fun j hj s hs => h (j + 1) (by simp; omega) s (by simpa using hs))
    unfold ahead at this
    rw [this]
theorem ahead_le (f a : Int) (T : List Rec) : ahead f a T ≤ T.length := List.Sublist.length_le (List.takeWhile_sublist _)
/-- between two rounds of the count -/
def cRel (T : List Rec) (f a : Int) (W : World) (n : Nat) (v : Value) (wr : World) : Prop :=
  ∃ i : Nat, n = T.length - i ∧ i ≤ T.length ∧ v = .int .i64 i ∧ (∀ (j : Nat), j < i → ∀ s, T[j]? = some s → ltB f a s = true) ∧ wr = W
end Go.Proofs.YtahkhecfnimdbaaDoor
