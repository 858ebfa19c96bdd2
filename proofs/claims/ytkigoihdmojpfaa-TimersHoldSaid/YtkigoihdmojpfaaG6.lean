/- A queue and the reference's list beside it. -/
import Derived.Test.YtkigoihdmojpfaaG5
import Derived.Test.YtkigoihdmojpfaaL1
namespace Go.Proofs.Ytkigoihdmojpfaa
open Go.RowKit
open Go.Sort (grow)

/-- a queue of one's own, and the reference's list of its rows -/
structure PW (w0 W : World) (q : Nat) (F : List Nat) (S : List TR) (g : Nat) (v : Value) : Prop where
  qu : Qu W q F S
  rt : RT W g v S
  ge : ∀ c ∈ F, w0.heap.size ≤ c
  ap : g ∉ F
  bl : Below w0.heap.size w0 W
theorem PW.below {w0 W W' : World} {q g : Nat} {F : List Nat} {S : List TR} {v : Value} (h : PW w0 W q F S g v) (hb : Below W.heap.size W W') : PW w0 W' q F S g v := ⟨h.qu.below hb, h.rt.below hb, h.ge, h.ap, bthen h.bl hb⟩
/-- what a call by both leaves -/
structure Acted (w0 w w' : World) (q : Nat) (F : List Nat) (g : Nat) (q' : Nat) (F' : List Nat) (S' : List TR) (g' : Nat) (v' : Value) : Prop where
  pw : PW w0 w' q' F' S' g' v'
  kb : KB F w w'
  nb : ∀ c ∈ F', c ∈ F ∨ w.heap.size ≤ c
  ng : g' = g ∨ w.heap.size ≤ g'
theorem Acted.below {w0 w W W' : World} {q g q' g' : Nat} {F F' : List Nat} {S' : List TR} {v' : Value} (h : Acted w0 w W q F g q' F' S' g' v') (hb : Below W.heap.size W W') : Acted w0 w W' q F g q' F' S' g' v' :=
  ⟨h.pw.below hb, h.kb.trans (KB.of_below hb), h.nb, h.ng⟩
/-- a store beside it -/
theorem Acted.set {w0 w W : World} {q g q' g' : Nat} {F F' : List Nat} {S' : List TR} {v' : Value} (h : Acted w0 w W q F g q' F' S' g' v') {B : Nat} (h0 : w0.heap.size ≤ B) (hB : w.heap.size ≤ B) (hn : B ∉ F') (hg : B ≠ g') (o : Nat) (u : Value) : Acted w0 w (W.setCell ⟨B, o, none⟩ u) q F g q' F' S' g' v' := by
  refine ⟨⟨h.pw.qu.kept fun c hc => Below.heap_setCell _ _ _ c (fun e => by subst e; exact hn hc), h.pw.rt.of_block (Below.heap_setCell _ _ _ _ (fun e => hg e.symm)), h.pw.ge, h.pw.ap, h.pw.bl.setCell (p := ⟨B, o, none⟩) h0 u⟩, ?_, h.nb, h.ng⟩
  exact ⟨h.kb.os, h.kb.tape, h.kb.output, by have := h.kb.size; simpa using this, fun i hi hm => (Below.heap_setCell _ _ _ i (show i ≠ B by omega)).trans (h.kb.block i hi hm)⟩
/-- the list first, then the queue -/
theorem Acted.mk2 {w0 w w1 w2 w3 w4 : World} {q g g' : Nat} {F : List Nat} {S S' : List TR} {v v' : Value} (h : PW w0 w q F S g v) (h1 : Below w.heap.size w w1) (hr : RT w1 g' v' S') (hg : g' = g ∨ w.heap.size ≤ g') (h2 : Below w1.heap.size w1 w2) (hw : QNew w2 w3 q F S') (h4 : Below w3.heap.size w3 w4) :
    ∃ F', Acted w0 w w4 q F g q F' S' g' v' ∧ ∀ c ∈ F', c ∈ F ∨ w2.heap.size ≤ c := by
  obtain ⟨F', k1, k2, k3⟩ := hw
  have h12 := bthen h1 h2
  have hz := h12.size
  have hl2 : g' < w2.heap.size := Nat.lt_of_lt_of_le hr.lt h2.size
  have hgF : g' ∉ F := by
    rcases hg with rfl | hg
    · exact h.ap
    · intro hm
      have := h.qu.foot_lt _ hm
      omega
  have R3 : RT w3 g' v' S' := (hr.below h2).of_block (k3.block g' hl2 hgF)
  have hb0 := h.bl.size
  refine ⟨F', ⟨⟨k1.below h4, R3.below h4, ?_, ?_, bthen (k3.after h.ge (bthen h.bl h12)) h4⟩, ((KB.of_below (S := F) h12).trans k3).trans (KB.of_below h4), ?_, hg⟩, k2⟩
  · intro c hc
    rcases k2 c hc with h5 | h5
    · exact h.ge c h5
    · omega
  · intro hm
    rcases k2 _ hm with h5 | h5
    · exact hgF h5
    · omega
  · intro c hc
    rcases k2 c hc with h5 | h5
    · exact .inl h5
    · exact .inr (by omega)
/-- what act leaves -/
def ActP (w0 w w' : World) (q : Nat) (F : List Nat) (S : List TR) (g : Nat) (e : Ending) : Prop :=
  ∃ q' F' S' g' v', e = .returned (.tuple #[.pointer (some ⟨q', 0, none⟩), v', .bool true]) ∧ Acted w0 w w' q F g q' F' S' g' v' ∧ S'.length ≤ S.length + 1
end Go.Proofs.Ytkigoihdmojpfaa
