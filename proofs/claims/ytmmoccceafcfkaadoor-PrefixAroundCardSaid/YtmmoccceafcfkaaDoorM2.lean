/- Plain: what addr.Parse computes. -/
namespace Go.Proofs.YtmmoccceafcfkaaDoor

structure Rd where
  p : Nat → Int
  part : Nat
  digits : Int

def Rd.init : Rd := ⟨fun _ => 0, 0, 0⟩
def Rd.step (r : Rd) (c : Int) : Option Rd :=
  if c = 46 then (if 0 < r.digits ∧ r.part < 3 then some ⟨r.p, r.part + 1, 0⟩ else none)
  else if 48 ≤ c ∧ c ≤ 57 ∧ (r.digits = 0 ∨ r.p r.part ≠ 0) ∧ r.p r.part * 10 + (c - 48) ≤ 255 then
    some ⟨fun i => if i = r.part then r.p r.part * 10 + (c - 48) else r.p i, r.part, r.digits + 1⟩
  else none
def runR : List UInt8 → Nat → Rd → Option Rd × Nat
  | [], pos, r => (some r, pos)
  | c :: cs, pos, r => match r.step (c.toNat : Int) with
    | none => (none, pos)
    | some r' => runR cs (pos + 1) r'
def Rd.val (r : Rd) : Int := ((r.p 0 * 256 + r.p 1) * 256 + r.p 2) * 256 + r.p 3
def Rd.fin (r : Rd) (n : Nat) : Int × Int × Int := if r.part = 3 ∧ r.digits ≠ 0 then (r.val, n, 0) else (0, n, 110)
def parseS (s : List UInt8) : Int × Int × Int :=
  match runR s 0 Rd.init with
  | (some r, n) => r.fin n
  | (none, n) => (0, n, 110)

structure Rd.Ok (r : Rd) (n : Nat) : Prop where
  p0 : ∀ i, 0 ≤ r.p i
  p1 : ∀ i, r.p i ≤ 255
  part : r.part ≤ 3
  d0 : 0 ≤ r.digits
  d1 : r.digits ≤ n

theorem Rd.init_ok : Rd.init.Ok 0 := ⟨fun _ => by simp [Rd.init], fun _ => by simp [Rd.init], by simp [Rd.init], by simp [Rd.init], by simp [Rd.init]⟩
theorem Rd.step_ok {r r' : Rd} {c : Int} {n : Nat} (h : r.Ok n) (e : r.step c = some r') : r'.Ok (n + 1) := by
  unfold Rd.step at e
  split at e
  · split at e
    · rename_i h2
      cases e
      exact ⟨h.p0, h.p1, by show r.part + 1 ≤ 3; omega, by show (0 : Int) ≤ 0; omega, by show (0 : Int) ≤ _; omega⟩
    · cases e
  · split at e
    · rename_i h2
      cases e
      have a0 := h.p0 r.part
      refine ⟨fun i => ?_, fun i => ?_, h.part, ?_, ?_⟩
      · show 0 ≤ (if i = r.part then _ else _)
        split
        · omega
        · exact h.p0 i
      · show (if i = r.part then _ else _) ≤ _
        split
        · omega
        · exact h.p1 i
      · show 0 ≤ r.digits + 1
        have := h.d0; omega
      · show r.digits + 1 ≤ _
        have := h.d1; omega
    · cases e
theorem runR_pos (s : List UInt8) : ∀ (pos : Nat) (r : Rd), (runR s pos r).2 ≤ pos + s.length := by
  induction s with
  | nil => intro pos r; simp [runR]
  | cons c cs ih =>
    intro pos r
    unfold runR
    split
    · simp
    · have := ih (pos + 1) ‹_›
      simp; omega
end Go.Proofs.YtmmoccceafcfkaaDoor
