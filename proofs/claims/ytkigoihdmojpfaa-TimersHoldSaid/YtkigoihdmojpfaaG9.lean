/- Boxes of the law beside a queue and the reference's list. -/
import Derived.Test.YtkigoihdmojpfaaG8
import Derived.Test.YtkigoihdmojpfaaL2
namespace Go.Proofs.Ytkigoihdmojpfaa
open Go.RowKit
open Go.Sort (grow)

/-- a block beside the queue and the list -/
structure Apart (W : World) (B : Nat) (F : List Nat) (g : Nat) : Prop where
  lt : B < W.heap.size
  nb : B ∉ F
  ng : B ≠ g
theorem Apart.size {W W' : World} {B g : Nat} {F : List Nat} (h : Apart W B F g) (hs : W.heap.size ≤ W'.heap.size) : Apart W' B F g := ⟨Nat.lt_of_lt_of_le h.lt hs, h.nb, h.ng⟩
theorem Apart.act {w0 W W' : World} {B q g q' g' : Nat} {F F' : List Nat} {S' : List TR} {v' : Value} (h : Apart W B F g) (hA : Acted w0 W W' q F g q' F' S' g' v') : Apart W' B F' g' ∧ W'.heap[B]? = W.heap[B]? := by
  have hl := h.lt
  refine ⟨⟨Nat.lt_of_lt_of_le h.lt hA.kb.size, fun hm => ?_, fun e => ?_⟩, hA.kb.block B h.lt h.nb⟩
  · rcases hA.nb B hm with h1 | h1
    · exact h.nb h1
    · omega
  · rcases hA.ng with h1 | h1
    · exact h.ng (by rw [e, h1])
    · omega
theorem KB.thenB {S : List Nat} {a b c : World} (h : Below a.heap.size a b) (k : KB S b c) : KB S a c :=
  ⟨k.os.trans h.os, k.tape.trans h.tape, k.output.trans h.output, Nat.le_trans h.size k.size, fun i hi hn => (k.block i (Nat.lt_of_lt_of_le hi h.size) hn).trans (h.block i hi)⟩
theorem Acted.pre {w0 w w1 W : World} {q g q' g' : Nat} {F F' : List Nat} {S' : List TR} {v' : Value} (h : Acted w0 w1 W q F g q' F' S' g' v') (hb : Below w.heap.size w w1) : Acted w0 w W q F g q' F' S' g' v' :=
  ⟨h.pw, KB.thenB hb h.kb, fun c hc => by rcases h.nb c hc with h1 | h1; exact .inl h1; exact .inr (Nat.le_trans hb.size h1), by rcases h.ng with h1 | h1; exact .inl h1; exact .inr (Nat.le_trans hb.size h1)⟩
/-- behind the call: the queue, the list, in a box of its own -/
def R7 (w0 wr : World) (q : Nat) (F : List Nat) (S : List TR) (g : Nat) (v6 v7 v8 : Value) (wx : World) : Prop :=
  ∃ (q' : Nat) (F' : List Nat) (S' : List TR) (g' X : Nat) (b' : Option Addr) (c' : Nat), v6 = .pointer (some ⟨q', 0, none⟩) ∧ v7 = .pointer (some ⟨X, 0, none⟩) ∧ v8 = .bool true ∧ OneB wx X (.slice b' S'.length c') 37 ∧ wr.heap.size ≤ X ∧ Acted w0 wr wx q F g q' F' S' g' (.agg #[.slice b' S'.length c']) ∧ S'.length ≤ S.length + 1
theorem R7.late {w0 wr w2 : World} {q g q' g' : Nat} {F F' : List Nat} {S S' : List TR} {b' : Option Addr} {c' : Nat} (hA : Acted w0 wr.drew w2 q F g q' F' S' g' (.agg #[.slice b' S'.length c'])) (hl : S'.length ≤ S.length + 1) :
    R7 w0 wr q F S g (.pointer (some ⟨q', 0, none⟩)) (.pointer (some ⟨w2.heap.size, 0, none⟩)) (.bool true) (w2.alloc (.cells #[.slice b' S'.length c'] 37)) := by
  have h1 := hA.pre (w := wr) (Below.refl _ _).drew
  exact ⟨q', F', S', g', _, b', c', rfl, rfl, rfl, OneB.new _ _ _, h1.kb.size, h1.below (below1 _ _), hl⟩
theorem R7.early {w0 wr w2 : World} {q g q' g' : Nat} {F F' : List Nat} {S S' : List TR} {v : Value} {b' : Option Addr} {c' : Nat} (h : PW w0 wr q F S g v) (hA : Acted w0 (wr.alloc (.cells #[.slice none 0 0] 37)).drew w2 q F g q' F' S' g' (.agg #[.slice b' S'.length c'])) (hl : S'.length ≤ S.length + 1) :
    R7 w0 wr q F S g (.pointer (some ⟨q', 0, none⟩)) (.pointer (some ⟨wr.heap.size, 0, none⟩)) (.bool true) (w2.setCell ⟨wr.heap.size, 0, none⟩ (.slice b' S'.length c')) := by
  have hap : Apart (wr.alloc (.cells #[.slice none 0 0] 37)).drew wr.heap.size F g := ⟨by show _ < (wr.alloc _).heap.size; simp, fun hm => by have := h.qu.foot_lt _ hm; omega, fun e => by have := h.rt.lt; omega⟩
  obtain ⟨a1, a2⟩ := hap.act hA
  have hb : OneB w2 wr.heap.size (.slice none 0 0) 37 := a2.trans (OneB.new wr _ _)
  have h1 := hA.pre (w := wr) ((below1 wr _).drew)
  exact ⟨q', F', S', g', _, b', c', rfl, rfl, rfl, hb.set _, Nat.le_refl _, h1.set (by exact h.bl.size) (Nat.le_refl _) a1.nb a1.ng 0 _, hl⟩

/-- a store into a box of a slice leaves the list as it is -/
theorem RT.setBox {W : World} {B g n c : Nat} {v : Value} {S : List TR} {b : Option Addr} (h : RT W g v S) (hb : OneB W B (.slice b n c) 37) (u : Value) : RT (W.setCell ⟨B, 0, none⟩ u) g v S := by
  by_cases e : g = B
  · subst e
    obtain ⟨base, cap, rfl, hs, hc⟩ := h.ex
    cases S with
    | nil => exact ⟨base, cap, rfl, ⟨by simpa using hs.lt, fun i r hr => by simp at hr⟩, hc⟩
    | cons x T =>
      exfalso
      obtain ⟨_, z0, _⟩ := hs.row 0 x rfl
      simp only [Nat.zero_add, Nat.zero_mul] at z0
      rw [hb.c] at z0
      cases z0
  · exact h.of_block (Below.heap_setCell _ _ _ _ e)
/-- the box of the list in the law -/
structure PT (w W : World) (B q : Nat) (F : List Nat) (S : List TR) (g : Nat) (b : Option Addr) (c : Nat) : Prop where
  pw : PW w W q F S g (.agg #[.slice b S.length c])
  lt : B < W.heap.size
  nb : B ∉ F
  b4 : OneB W B (.slice b S.length c) 37
  ge : w.heap.size ≤ B
theorem PT.below {w W W' : World} {B q g c : Nat} {F : List Nat} {S : List TR} {b : Option Addr} (h : PT w W B q F S g b c) (hb : Below W.heap.size W W') : PT w W' B q F S g b c := ⟨h.pw.below hb, Nat.lt_of_lt_of_le h.lt hb.size, h.nb, h.b4.below hb, h.ge⟩
theorem PT.act {w W W' : World} {B q g q' g' c c' : Nat} {F F' : List Nat} {S S' : List TR} {b b' : Option Addr} (h : PT w W B q F S g b c) (hA : Acted w W W' q F g q' F' S' g' (.agg #[.slice b' S'.length c'])) : PT w (W'.setCell ⟨B, 0, none⟩ (.slice b' S'.length c')) B q' F' S' g' b' c' := by
  have hl := h.lt
  have hb : OneB W' B (.slice b S.length c) 37 := (hA.kb.block B h.lt h.nb).trans h.b4
  have hn : B ∉ F' := fun hm => by
    rcases hA.nb B hm with h1 | h1
    · exact h.nb h1
    · omega
  exact ⟨⟨hA.pw.qu.kept fun c hc => Below.heap_setCell _ _ _ c (fun e => by subst e; exact hn hc), hA.pw.rt.setBox hb _, hA.pw.ge, hA.pw.ap, hA.pw.bl.setCell (p := ⟨B, 0, none⟩) h.ge _⟩, Nat.lt_of_lt_of_le h.lt (by have := hA.kb.size; simpa using this), hn, hb.set _, h.ge⟩
/-- a new queue, and an empty list in a box -/
theorem PT.start {w w1 : World} {q : Nat} (h : OQ w w1 q [] []) : ∃ F, PT w (w1.alloc (.cells #[.slice none 0 0] 37)) w1.heap.size q F [] w1.heap.size none 0 := by
  obtain ⟨F, h1, h2, _⟩ := h.ex
  have hn : w1.heap.size ∉ F := fun hm => by have := h1.foot_lt _ hm; omega
  exact ⟨F, ⟨h1.below (below1 _ _), RT.nil (by simp), h2, hn, bthen h.bl (below1 _ _)⟩, by simp, hn, OneB.new _ _ _, h.bl.size⟩
end Go.Proofs.Ytkigoihdmojpfaa
