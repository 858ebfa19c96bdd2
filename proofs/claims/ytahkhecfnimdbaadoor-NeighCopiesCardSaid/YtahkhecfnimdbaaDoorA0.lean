/- Small words that every walk of this seat uses. -/
import Derived.Test.YtahkhecfnimdbaaDoorRows
import Derived.Test.YtahkhecfnimdbaaDoorM1
import Derived.WalkKit
import Derived.WalkSpells
import Derived.WalkLawsBesides
import Derived.Outline
import Derived.Deep.QuietTactic
import Derived.BigQuiet
import Derived.Lib.Hide
import Derived.Lib.QuietBelow
import Derived.WalkMore
import Derived.ScopeJumps
import Derived.Maps.Own
import Derived.Maps.OwnSet
namespace Go.Proofs.YtahkhecfnimdbaaDoor
open Go.RowKit

theorem ret_int {k : IntKind} {a b : Int} (h : a = b) : Ending.returned (.int k a) = .returned (.int k b) := by rw [h]
theorem ret_bool {a b : Bool} (h : a = b) : Ending.returned (.bool a) = .returned (.bool b) := by rw [h]
theorem bthen {w w1 w' : World} (h1 : Below w.heap.size w w1) (h2 : Below w1.heap.size w1 w') : Below w.heap.size w w' := h1.trans (h2.mono h1.size)

/-- a scope whose run may jump forward once, to label l -/
theorem wp_scope_fwd {P : Program} {a : Act} {w : World} {Q : Exit → Act → World → Prop} {c rest : Code} (l : Nat) (hf : findLabel c l = some rest)
    (h : c.wp P (Exit.jump l (fun a w => rest.wp P (Exit.noGoto Q) a w) Q) a w) : (Code.scope c).wp P Q a w := by
  refine wp_scope_jumps l _ (fun _ _ => 0) hf h ?_
  intro a' w' hJ
  refine Code.wp_mono ?_ hJ
  intro e a2 w2 h2
  cases e <;> first | exact h2 | exact (h2 : False).elim
end Go.Proofs.YtahkhecfnimdbaaDoor
