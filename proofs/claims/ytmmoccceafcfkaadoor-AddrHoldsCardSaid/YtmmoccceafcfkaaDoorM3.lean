/- Plain: what the reference's number, Head and Parse compute. -/
namespace Go.Proofs.YtmmoccceafcfkaaDoor

def numS : List UInt8 → Int → Nat → Int × Nat
  | [], n, m => (n, m)
  | c :: cs, n, m =>
    if 48 ≤ (c.toNat : Int) ∧ (c.toNat : Int) ≤ 57 then
      (if (0 < m ∧ n = 0) ∨ 255 < 10 * n + ((c.toNat : Int) - 48) then (n, m) else numS cs (10 * n + ((c.toNat : Int) - 48)) (m + 1))
    else (n, m)
theorem numS_bd : ∀ (l : List UInt8) (n : Int) (m : Nat), 0 ≤ n → n ≤ 255 → 0 ≤ (numS l n m).1 ∧ (numS l n m).1 ≤ 255 ∧ m ≤ (numS l n m).2 ∧ (numS l n m).2 ≤ m + l.length := by
  intro l
  induction l with
  | nil => intro n m h0 h1; simp [numS]; omega
  | cons c cs ih =>
    intro n m h0 h1
    unfold numS
    split
    · split
      · simp; omega
      · rename_i h2 h3
        have := ih (10 * n + ((c.toNat : Int) - 48)) (m + 1) (by omega) (by omega)
        simp only [List.length_cons]
        omega
    · simp; omega

/-- rounds left; is it the first; the place; the number so far -/
def headF (s : List UInt8) : Nat → Bool → Nat → Int → Int × Nat × Bool
  | 0, _, at', n => (n, at', true)
  | f + 1, first, at', n =>
    if first = false ∧ ¬ (at' < s.length ∧ s.getD at' 0 = 46) then (0, at', false)
    else
      let a1 := if first then at' else at' + 1
      let r := numS (s.drop a1) 0 0
      if r.2 = 0 then (0, a1, false) else headF s f false (a1 + r.2) (256 * n + r.1)
def headS (s : List UInt8) (at' : Nat) : Int × Nat × Bool := headF s 4 true at' 0
def refParseS (s : List UInt8) : Int × Int × Int :=
  let r := headS s 0
  if r.2.2 = false ∨ r.2.1 < s.length then (0, (r.2.1 : Int), 110) else (r.1, (r.2.1 : Int), 0)
end Go.Proofs.YtmmoccceafcfkaaDoor
