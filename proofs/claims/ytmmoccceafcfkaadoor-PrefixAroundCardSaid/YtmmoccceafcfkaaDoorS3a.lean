/- siftDown's steps, plain. -/
import Derived.Test.YtmmoccceafcfkaaDoorS2
namespace Go.Proofs.YtmmoccceafcfkaaDoor
open Go.Sort
variable {lt : Pf → Pf → Bool} {hi first r : Nat} {d : Array Pf}
theorem sift_end (h : hi ≤ 2 * r + 1) : siftDown lt hi first r d = d := by rw [siftDown]; rw [dif_pos h]
/-- the right child is taken -/
theorem sift_right (_h : 2 * r + 1 < hi) (hc : (decide (2 * r + 1 + 1 < hi) && lt d[first + (2 * r + 1)]! d[first + (2 * r + 1) + 1]!) = true) (hl : lt d[first + r]! d[first + (2 * r + 2)]! = true) :
    siftDown lt hi first r d = siftDown lt hi first (2 * r + 2) (swp d (first + r) (first + (2 * r + 2))) := by
  have h2 : 2 * r + 2 < hi := by simp at hc; omega
  rw [siftDown, dif_neg (by omega), if_pos hc, if_neg (by simp [hl]), dif_pos h2]
theorem sift_right_end (h : 2 * r + 1 < hi) (hc : (decide (2 * r + 1 + 1 < hi) && lt d[first + (2 * r + 1)]! d[first + (2 * r + 1) + 1]!) = true) (hl : lt d[first + r]! d[first + (2 * r + 2)]! = false) :
    siftDown lt hi first r d = d := by
  rw [siftDown, dif_neg (by omega), if_pos hc, if_pos (by simp [hl])]
theorem sift_left (h : 2 * r + 1 < hi) (hc : (decide (2 * r + 1 + 1 < hi) && lt d[first + (2 * r + 1)]! d[first + (2 * r + 1) + 1]!) = false) (hl : lt d[first + r]! d[first + (2 * r + 1)]! = true) :
    siftDown lt hi first r d = siftDown lt hi first (2 * r + 1) (swp d (first + r) (first + (2 * r + 1))) := by
  rw [siftDown, dif_neg (by omega), if_neg (by simp [hc]), if_neg (by simp [hl])]
theorem sift_left_end (h : 2 * r + 1 < hi) (hc : (decide (2 * r + 1 + 1 < hi) && lt d[first + (2 * r + 1)]! d[first + (2 * r + 1) + 1]!) = false) (hl : lt d[first + r]! d[first + (2 * r + 1)]! = false) :
    siftDown lt hi first r d = d := by
  rw [siftDown, dif_neg (by omega), if_neg (by simp [hc]), if_pos (by simp [hl])]
theorem size_sift (lt : Pf → Pf → Bool) (hi first : Nat) : ∀ (n r : Nat) (d : Array Pf), hi - r ≤ n → (siftDown lt hi first r d).size = d.size := by
  intro n
  induction n with
  | zero => intro r d h; rw [sift_end (by omega)]
  | succ n ih =>
    intro r d h
    by_cases h1 : hi ≤ 2 * r + 1
    · rw [sift_end h1]
    · cases hc : (decide (2 * r + 1 + 1 < hi) && lt d[first + (2 * r + 1)]! d[first + (2 * r + 1) + 1]!) with
      | true =>
        have h2 : 2 * r + 2 < hi := by simp at hc; omega
        cases hl : lt d[first + r]! d[first + (2 * r + 2)]! with
        | true => rw [sift_right (by omega) hc hl, ih _ _ (by omega), size_swp]
        | false => rw [sift_right_end (by omega) hc hl]
      | false =>
        cases hl : lt d[first + r]! d[first + (2 * r + 1)]! with
        | true => rw [sift_left (by omega) hc hl, ih _ _ (by omega), size_swp]
        | false => rw [sift_left_end (by omega) hc hl]
end Go.Proofs.YtmmoccceafcfkaaDoor
