/-
  No cell of these rows narrows 'for every input' (looked for: loops, veiled, ifaces, maps, wideKeys, modest, calm, conditions, laid).
  DERIVED. THE GIVEN ROWS OF THIS SEAT. 5 by the template 'for every input the law returns true; each argument reads behind the call as it read before'; 0 by the template 'total and deterministic' (their statements: YtkigoihdmojpfaaTotals.lean).
  GIVEN WITH THE SEED: the statements are not yours to turn. If you find one false, say at which input.
  Laid BY PROGRAM, IN A SANDBOX (cutbox-rows.mjs): the forced cells as the released guide's own fill.sh prints them over the translation be65872fa2c2adb0… (all of the seat's roots in one cut). By AI agents, Wed Nov 11 2026. No macro, syntax, notation, axiom, sorry.
-/
import Derived.Test.YtkigoihdmojpfaaChecked
import GoSem.Claim
import GoSem.ClaimJoined
import GoSem.ClaimMapViews
import Derived.JoinedTies
import Derived.KernelRfl
namespace Go.Proofs.Ytkigoihdmojpfaa
/- THE CELL 'sum', in the pinned program and in every row, IS THE sha256 OF THE DUMP (.gsa) THAT YtkigoihdmojpfaaProg.lean LOADS. Nothing in Lean hashes anything: it is a label: what it is worth is what the hold of that sum in a sandbox is worth. -/
noncomputable def Try.pinned : Pinned := { name := "ytkigoihdmojpfaa", sum := "be65872fa2c2adb0c21bc0672a3c17f4d29b417b0cccbea28db218de34b6898f", checked := Try.checked }
namespace Rows
def none {H : Type} : Left H := { results := [], args := [] }

/-- 'waywardenlaw07.TimersAll': WHATEVER THE INPUT: true; the input reads as it did. -/
def timersAllSpec : ChangeSpec := { name := "timersAll", fn := fun _ => fun
  | [d1, d2, d3] => { results := [.lit (.bool true)], args := [d1, d2, d3] }
  | _ => none }
def timersAllRow : OpenClaim := { program := "ytkigoihdmojpfaa", sum := "be65872fa2c2adb0c21bc0672a3c17f4d29b417b0cccbea28db218de34b6898f", func := "waywarden/waywardenlaw07.TimersAll", spec := "timersAll", inPlace := ["maps.clone"], unfollowed := true, recurses := true, plainKeys := false, apart := false }
def TimersAllSaid : Prop := timersAllRow.holds Try.pinned (OpenSpec.ofChange timersAllSpec)

/-- ITS FALSE NEIGHBOUR: 'it returns false'. Refute it at one input. -/
def timersAllWrong : ChangeSpec := { name := "timersAll", fn := fun _ => fun
  | [d1, d2, d3] => { results := [.lit (.bool false)], args := [d1, d2, d3] }
  | _ => none }
def TimersAllWrongFalsely : Prop := timersAllRow.holds Try.pinned (OpenSpec.ofChange timersAllWrong)

/-- 'waywardenlaw07.TimersPlay': WHATEVER THE INPUT: true; the input reads as it did. -/
def timersPlaySpec : ChangeSpec := { name := "timersPlay", fn := fun _ => fun
  | [d] => { results := [.lit (.bool true)], args := [d] }
  | _ => none }
def timersPlayRow : OpenClaim := { program := "ytkigoihdmojpfaa", sum := "be65872fa2c2adb0c21bc0672a3c17f4d29b417b0cccbea28db218de34b6898f", func := "waywarden/waywardenlaw07.TimersPlay", spec := "timersPlay", inPlace := ["maps.clone"], unfollowed := true, recurses := true, plainKeys := false, apart := false }
def TimersPlaySaid : Prop := timersPlayRow.holds Try.pinned (OpenSpec.ofChange timersPlaySpec)

/-- ITS FALSE NEIGHBOUR: 'it returns false'. Refute it at one input. -/
def timersPlayWrong : ChangeSpec := { name := "timersPlay", fn := fun _ => fun
  | [d] => { results := [.lit (.bool false)], args := [d] }
  | _ => none }
def TimersPlayWrongFalsely : Prop := timersPlayRow.holds Try.pinned (OpenSpec.ofChange timersPlayWrong)

/-- 'waywardenlaw07.TimersHold': WHATEVER THE INPUT: true; the input reads as it did. -/
def timersHoldSpec : ChangeSpec := { name := "timersHold", fn := fun _ => fun
  | [d1, d2, d3] => { results := [.lit (.bool true)], args := [d1, d2, d3] }
  | _ => none }
def timersHoldRow : OpenClaim := { program := "ytkigoihdmojpfaa", sum := "be65872fa2c2adb0c21bc0672a3c17f4d29b417b0cccbea28db218de34b6898f", func := "waywarden/waywardenlaw07.TimersHold", spec := "timersHold", unfollowed := true, recurses := true, plainKeys := false, apart := false }
def TimersHoldSaid : Prop := timersHoldRow.holds Try.pinned (OpenSpec.ofChange timersHoldSpec)

/-- ITS FALSE NEIGHBOUR: 'it returns false'. Refute it at one input. -/
def timersHoldWrong : ChangeSpec := { name := "timersHold", fn := fun _ => fun
  | [d1, d2, d3] => { results := [.lit (.bool false)], args := [d1, d2, d3] }
  | _ => none }
def TimersHoldWrongFalsely : Prop := timersHoldRow.holds Try.pinned (OpenSpec.ofChange timersHoldWrong)

/-- 'waywardenlaw07.TimersCopies': WHATEVER THE INPUT: true; the input reads as it did. -/
def timersCopiesSpec : ChangeSpec := { name := "timersCopies", fn := fun _ => fun
  | [d1, d2, d3] => { results := [.lit (.bool true)], args := [d1, d2, d3] }
  | _ => none }
def timersCopiesRow : OpenClaim := { program := "ytkigoihdmojpfaa", sum := "be65872fa2c2adb0c21bc0672a3c17f4d29b417b0cccbea28db218de34b6898f", func := "waywarden/waywardenlaw07.TimersCopies", spec := "timersCopies", inPlace := ["maps.clone"], unfollowed := true, recurses := true, plainKeys := false, apart := false }
def TimersCopiesSaid : Prop := timersCopiesRow.holds Try.pinned (OpenSpec.ofChange timersCopiesSpec)

/-- ITS FALSE NEIGHBOUR: 'it returns false'. Refute it at one input. -/
def timersCopiesWrong : ChangeSpec := { name := "timersCopies", fn := fun _ => fun
  | [d1, d2, d3] => { results := [.lit (.bool false)], args := [d1, d2, d3] }
  | _ => none }
def TimersCopiesWrongFalsely : Prop := timersCopiesRow.holds Try.pinned (OpenSpec.ofChange timersCopiesWrong)

/-- 'waywardenlaw07.TimersNone': WHATEVER THE INPUT: true; the input reads as it did. -/
def timersNoneSpec : ChangeSpec := { name := "timersNone", fn := fun _ => fun
  | [d] => { results := [.lit (.bool true)], args := [d] }
  | _ => none }
def timersNoneRow : OpenClaim := { program := "ytkigoihdmojpfaa", sum := "be65872fa2c2adb0c21bc0672a3c17f4d29b417b0cccbea28db218de34b6898f", func := "waywarden/waywardenlaw07.TimersNone", spec := "timersNone", inPlace := ["maps.clone"], unfollowed := true, recurses := true, plainKeys := false, apart := false }
def TimersNoneSaid : Prop := timersNoneRow.holds Try.pinned (OpenSpec.ofChange timersNoneSpec)

/-- ITS FALSE NEIGHBOUR: 'it returns false'. Refute it at one input. -/
def timersNoneWrong : ChangeSpec := { name := "timersNone", fn := fun _ => fun
  | [d] => { results := [.lit (.bool false)], args := [d] }
  | _ => none }
def TimersNoneWrongFalsely : Prop := timersNoneRow.holds Try.pinned (OpenSpec.ofChange timersNoneWrong)

/- THE SECOND FORM. 'bulk': how many values and letters a reading holds, each counted each time it is reached (what is shared counts as often as it is met; a slice's spare places count too). A statement '..UptoSaid' is the law's where the arguments, and the package variables that the reading takes, are together of bulk at most 1048576: NARROWER than '..Said'. Prove '..Said' where nothing that the law and all that it calls make is longer than what came in: it says more and counts as full. Else prove '..UptoSaid'. A law counts once. -/
mutual
def uptoBulk {H : Type} : DataW H → Nat
  | .lit (.string bytes) => bytes.length + 1
  | .lit _ => 1
  | .nil => 1
  | .ptr d => uptoBulk d + 1
  | .slice elems spare => uptoBulkAll elems + uptoBulkAll spare + 1
  | .agg parts => uptoBulkAll parts + 1
  | .iface _ d => uptoBulk d + 1
  | .map entries => uptoBulkEntries entries + 1
  | .held _ => 1
def uptoBulkAll {H : Type} : List (DataW H) → Nat
  | [] => 0
  | d :: r => uptoBulk d + uptoBulkAll r
def uptoBulkEntries {H : Type} : List (Lit × DataW H) → Nat
  | [] => 0
  | x :: r => uptoBulkEntry x + uptoBulkEntries r
def uptoBulkEntry {H : Type} : Lit × DataW H → Nat
  | (.string bytes, d) => bytes.length + uptoBulk d + 1
  | (_, d) => uptoBulk d + 1
 end
def uptoSmall : (H : Type) → List (DataW H) → Bool := fun _ ds => decide (uptoBulkAll ds ≤ 1048576)
def OpenSpec.upto (s : _root_.Go.ChangeSpec) : _root_.Go.OpenSpec := { _root_.Go.OpenSpec.ofChange s with cond := some uptoSmall }

/-- 'waywardenlaw07.TimersAll', WHERE WHAT IT READS IS OF BULK AT MOST 1048576: true; the input reads as it did. -/
def timersAllUptoRow : OpenClaim := { program := "ytkigoihdmojpfaa", sum := "be65872fa2c2adb0c21bc0672a3c17f4d29b417b0cccbea28db218de34b6898f", func := "waywarden/waywardenlaw07.TimersAll", spec := "timersAll", inPlace := ["maps.clone"], unfollowed := true, recurses := true, plainKeys := false, apart := false, narrowed := true }
def TimersAllUptoSaid : Prop := timersAllUptoRow.holds Try.pinned (OpenSpec.upto timersAllSpec)

/-- 'waywardenlaw07.TimersPlay', WHERE WHAT IT READS IS OF BULK AT MOST 1048576: true; the input reads as it did. -/
def timersPlayUptoRow : OpenClaim := { program := "ytkigoihdmojpfaa", sum := "be65872fa2c2adb0c21bc0672a3c17f4d29b417b0cccbea28db218de34b6898f", func := "waywarden/waywardenlaw07.TimersPlay", spec := "timersPlay", inPlace := ["maps.clone"], unfollowed := true, recurses := true, plainKeys := false, apart := false, narrowed := true }
def TimersPlayUptoSaid : Prop := timersPlayUptoRow.holds Try.pinned (OpenSpec.upto timersPlaySpec)

/-- 'waywardenlaw07.TimersHold', WHERE WHAT IT READS IS OF BULK AT MOST 1048576: true; the input reads as it did. -/
def timersHoldUptoRow : OpenClaim := { program := "ytkigoihdmojpfaa", sum := "be65872fa2c2adb0c21bc0672a3c17f4d29b417b0cccbea28db218de34b6898f", func := "waywarden/waywardenlaw07.TimersHold", spec := "timersHold", unfollowed := true, recurses := true, plainKeys := false, apart := false, narrowed := true }
def TimersHoldUptoSaid : Prop := timersHoldUptoRow.holds Try.pinned (OpenSpec.upto timersHoldSpec)

/-- 'waywardenlaw07.TimersCopies', WHERE WHAT IT READS IS OF BULK AT MOST 1048576: true; the input reads as it did. -/
def timersCopiesUptoRow : OpenClaim := { program := "ytkigoihdmojpfaa", sum := "be65872fa2c2adb0c21bc0672a3c17f4d29b417b0cccbea28db218de34b6898f", func := "waywarden/waywardenlaw07.TimersCopies", spec := "timersCopies", inPlace := ["maps.clone"], unfollowed := true, recurses := true, plainKeys := false, apart := false, narrowed := true }
def TimersCopiesUptoSaid : Prop := timersCopiesUptoRow.holds Try.pinned (OpenSpec.upto timersCopiesSpec)

/-- 'waywardenlaw07.TimersNone', WHERE WHAT IT READS IS OF BULK AT MOST 1048576: true; the input reads as it did. -/
def timersNoneUptoRow : OpenClaim := { program := "ytkigoihdmojpfaa", sum := "be65872fa2c2adb0c21bc0672a3c17f4d29b417b0cccbea28db218de34b6898f", func := "waywarden/waywardenlaw07.TimersNone", spec := "timersNone", inPlace := ["maps.clone"], unfollowed := true, recurses := true, plainKeys := false, apart := false, narrowed := true }
def TimersNoneUptoSaid : Prop := timersNoneUptoRow.holds Try.pinned (OpenSpec.upto timersNoneSpec)

end Rows
end Go.Proofs.Ytkigoihdmojpfaa
