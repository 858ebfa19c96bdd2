/- Plain: what prefix.Parse computes. -/
import Derived.Test.YtmmoccceafcfkaaDoorM1
import Derived.Test.YtmmoccceafcfkaaDoorM2
namespace Go.Proofs.YtmmoccceafcfkaaDoor

def digF (a : Int) : List UInt8 → Int → Int → Option (Int × Int)
  | [], len, dg => if dg = 0 ∨ rightB a len = false then none else some (a, len)
  | c :: cs, len, dg => if (c.toNat : Int) < 48 ∨ 57 < (c.toNat : Int) ∨ (0 < dg ∧ len = 0) ∨ 32 < len * 10 + ((c.toNat : Int) - 48) then none else digF a cs (len * 10 + ((c.toNat : Int) - 48)) (dg + 1)
def preF (pre : List UInt8) : List UInt8 → Option (Int × Int)
  | [] => none
  | c :: cs => if (c.toNat : Int) = 47 then (if (parseS pre).2.2 = 0 then digF (parseS pre).1 cs 0 0 else none) else preF (pre ++ [c]) cs
/-- the prefix of a text, if it is one -/
def pfxS (s : List UInt8) : Option (Int × Int) := preF [] s

theorem step_hi (r : Rd) (c : Int) (h : 128 ≤ c) : r.step c = none := by
  unfold Rd.step
  rw [if_neg (by omega), if_neg (by omega)]
theorem runR_hi (l : List UInt8) (c : UInt8) (hc : c ∈ l) (h : 128 ≤ c.toNat) : ∀ (pos : Nat) (r : Rd), (runR l pos r).1 = none := by
  induction l with
  | nil => cases hc
  | cons d ds ih =>
    intro pos r
    unfold runR
    rcases List.mem_cons.1 hc with rfl | hc
    · rw [step_hi _ _ (by omega)]
    · split
      · rfl
      · exact ih hc _ _
theorem parseS_hi (l : List UInt8) (c : UInt8) (hc : c ∈ l) (h : 128 ≤ c.toNat) : (parseS l).2.2 = 110 := by
  unfold parseS
  have := runR_hi l c hc h 0 Rd.init
  split
  · rename_i e; rw [e] at this; cases this
  · rfl
theorem preF_hi (rest : List UInt8) : ∀ (pre : List UInt8) (c : UInt8), c ∈ pre → 128 ≤ c.toNat → preF pre rest = none := by
  induction rest with
  | nil => intros; rfl
  | cons d ds ih =>
    intro pre c hc h
    unfold preF
    split
    · rw [if_neg (by rw [parseS_hi pre c hc h]; decide)]
    · exact ih _ c (List.mem_append_left _ hc) h
end Go.Proofs.YtmmoccceafcfkaaDoor
