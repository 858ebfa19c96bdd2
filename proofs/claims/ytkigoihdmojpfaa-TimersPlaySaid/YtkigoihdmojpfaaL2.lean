/- What every lift of this seat uses; what came in, opened: calls, timers, times. -/
import Derived.Test.YtkigoihdmojpfaaRows
import Derived.Test.YtkigoihdmojpfaaK9
import Derived.WalkKit
import Derived.ProofKit
import Derived.OpenShut
import Derived.Deep.DeepHandedRow
import Derived.Deep.Slices
import Derived.Lib.LaidTab
import Derived.Lib.SmallJoins
import Derived.Lib.AppendIntMem
import Derived.Laws.IdiomArrays
import Derived.LaidMore
import Derived.LaidSub
namespace Go.Proofs.Ytkigoihdmojpfaa
open Go.ChangeShapes Go.WideShapes Go.ChangeAt Go.RowKit

theorem own : ownKnob Try.prog.godebug = none := by kernel_rfl
theorem cells23 : Try.prog.cellsOf 23 = 1 := by kernel_rfl
theorem cells25 : Try.prog.cellsOf 25 = 1 := by kernel_rfl
theorem cells27 : Try.prog.cellsOf 27 = 2 := by kernel_rfl
theorem cells29 : Try.prog.cellsOf 29 = 3 := by kernel_rfl
theorem cells31 : Try.prog.cellsOf 31 = 5 := by kernel_rfl
theorem cells3 : Try.prog.cellsOf 3 = 1 := by kernel_rfl
theorem cells2 : Try.prog.cellsOf 2 = 1 := by kernel_rfl
theorem wf64 {x : Int} (h : (Lit.int .i64 x).wf = true) : -9223372036854775808 ≤ x ∧ x ≤ 9223372036854775807 := by
  simp [Lit.wf, IntKind.min, IntKind.max, IntKind.bits, IntKind.signed] at h; omega
theorem wf32 {x : Int} (h : (Lit.int .u32 x).wf = true) : 0 ≤ x ∧ x < 4294967296 := by
  simp [Lit.wf, IntKind.min, IntKind.max, IntKind.bits, IntKind.signed] at h; omega
theorem add_plain0 (b o k : Nat) : Addr.add ⟨b, o, none⟩ k = ⟨b, o + k, none⟩ := by unfold Addr.add; split <;> simp_all
theorem bounds_i64 {x : Int} (h : (Lit.int .i64 x).wf = true) : -9223372036854775808 ≤ x ∧ x ≤ 9223372036854775807 := wf64 h

set_option maxRecDepth 100000 in
theorem two_parts {H : Type} {enc : TypeId × Value → H} {W : World} {spare : Nat → Bool} {base n : Nat} {cs : List Value} {x : DataW H × List MemPlace} (h : DataW.trod enc Try.prog W base spare true n 27 cs = some x) :
    ∃ a n : Int, cs = [.int .u32 a, .int .i64 n] ∧ (0 ≤ a ∧ a < 4294967296) ∧ -9223372036854775808 ≤ n ∧ n ≤ 9223372036854775807 := by
  obtain ⟨xs, n', hn', hx, hlen, hxl, hf⟩ := DataW.trod_struct Try.underlying27 h
  rw [cells27] at hlen
  obtain ⟨c0, c1, rfl⟩ : ∃ c0 c1, cs = [c0, c1] := by
    rcases cs with _ | ⟨c0, _ | ⟨c1, _ | ⟨c2, cs⟩⟩⟩ <;> simp at hlen
    exact ⟨c0, c1, rfl⟩
  have hxl2 : xs.length = 2 := hxl
  have f0 := hf 0 ⟨ "Addr", 25, 0, false, "", "", 0⟩ rfl
  have f1 := hf 1 ⟨ "Len", 3, 1, false, "", "", 8⟩ rfl
  rw [cells25] at f0
  rw [cells3] at f1
  rw [List.getElem?_eq_getElem (by omega)] at f0 f1
  obtain ⟨y0, e0, _, g0⟩ := DataW.trod_int Try.underlying25 f0
  obtain ⟨y1, e1, _, g1⟩ := DataW.trod_int Try.underlying3 f1
  simp at e0 e1
  subst e0 e1
  exact ⟨y0, y1, rfl, wf32 g0, wf64 g1⟩
set_option maxRecDepth 100000 in
theorem three_parts {H : Type} {enc : TypeId × Value → H} {W : World} {spare : Nat → Bool} {base n : Nat} {cs : List Value} {x : DataW H × List MemPlace} (h : DataW.trod enc Try.prog W base spare true n 29 cs = some x) :
    ∃ k a n : Int, cs = [.int .i64 k, .int .u32 a, .int .i64 n] ∧ KBt k a n := by
  obtain ⟨xs, n', hn', hx, hlen, hxl, hf⟩ := DataW.trod_struct Try.underlying29 h
  rw [cells29] at hlen
  obtain ⟨c0, c1, c2, rfl⟩ : ∃ c0 c1 c2, cs = [c0, c1, c2] := by
    rcases cs with _ | ⟨c0, _ | ⟨c1, _ | ⟨c2, _ | ⟨c3, cs⟩⟩⟩⟩ <;> simp at hlen
    exact ⟨c0, c1, c2, rfl⟩
  have hxl2 : xs.length = 2 := hxl
  have f0 := hf 0 ⟨ "Kind", 23, 0, false, "", "", 0⟩ rfl
  have f1 := hf 1 ⟨ "Prefix", 27, 1, false, "", "", 8⟩ rfl
  rw [cells23] at f0
  rw [cells27] at f1
  rw [List.getElem?_eq_getElem (by omega)] at f0 f1
  obtain ⟨y0, e0, _, g0⟩ := DataW.trod_int Try.underlying23 f0
  obtain ⟨y1, y2, e1, hB⟩ := two_parts f1
  simp at e0 e1
  obtain ⟨rfl, rfl⟩ := e1
  subst e0
  exact ⟨y0, y1, y2, rfl, wf64 g0, hB.1, hB.2⟩

structure ActB (wt k a n d : Int) : Prop where
  w : -9223372036854775808 ≤ wt ∧ wt ≤ 9223372036854775807
  k : KBt k a n
  d : -9223372036854775808 ≤ d ∧ d ≤ 9223372036854775807
/-- a call in memory -/
structure ActIs (W : World) (b o : Nat) (wt k a n d : Int) : Prop where
  c0 : W.cell? ⟨b, o, none⟩ = some (.int .i64 wt)
  c1 : W.cell? ⟨b, o + 1, none⟩ = some (.int .i64 k)
  c2 : W.cell? ⟨b, o + 2, none⟩ = some (.int .u32 a)
  c3 : W.cell? ⟨b, o + 3, none⟩ = some (.int .i64 n)
  c4 : W.cell? ⟨b, o + 4, none⟩ = some (.int .i64 d)
/-- a list of calls that came in -/
structure ActsIn (W : World) (base : Option Addr) (b o k : Nat) (wt kd a n d : Nat → Int) : Prop where
  lt : 0 < k → b < W.heap.size
  is : 0 < k → base = some ⟨b, o, none⟩
  c : ∀ i, i < k → ActIs W b (o + i * 5) (wt i) (kd i) (a i) (n i) (d i)
  bd : ∀ i, ActB (wt i) (kd i) (a i) (n i) (d i)
theorem ActsIn.below {w W : World} {base : Option Addr} {b o k : Nat} {wt kd a n d : Nat → Int} (h : ActsIn w base b o k wt kd a n d) (hb : Below w.heap.size w W) : ActsIn W base b o k wt kd a n d :=
  ⟨fun h0 => Nat.lt_of_lt_of_le (h.lt h0) hb.size, h.is, fun i hi => by
    have hl : b < w.heap.size := h.lt (by omega)
    exact ⟨(hb.cell (p := ⟨b, o + i * 5, none⟩) hl).trans (h.c i hi).c0, (hb.cell (p := ⟨b, o + i * 5 + 1, none⟩) hl).trans (h.c i hi).c1, (hb.cell (p := ⟨b, o + i * 5 + 2, none⟩) hl).trans (h.c i hi).c2, (hb.cell (p := ⟨b, o + i * 5 + 3, none⟩) hl).trans (h.c i hi).c3, (hb.cell (p := ⟨b, o + i * 5 + 4, none⟩) hl).trans (h.c i hi).c4⟩, h.bd⟩
set_option maxRecDepth 100000 in
theorem five_parts {H : Type} {enc : TypeId × Value → H} {W : World} {spare : Nat → Bool} {base n : Nat} {cs : List Value} {x : DataW H × List MemPlace} (h : DataW.trod enc Try.prog W base spare true n 31 cs = some x) :
    ∃ wt k a n d : Int, cs = [.int .i64 wt, .int .i64 k, .int .u32 a, .int .i64 n, .int .i64 d] ∧ ActB wt k a n d := by
  obtain ⟨xs, n', hn', hx, hlen, hxl, hf⟩ := DataW.trod_struct Try.underlying31 h
  rw [cells31] at hlen
  obtain ⟨c0, c1, c2, c3, c4, rfl⟩ : ∃ c0 c1 c2 c3 c4, cs = [c0, c1, c2, c3, c4] := by
    rcases cs with _ | ⟨c0, _ | ⟨c1, _ | ⟨c2, _ | ⟨c3, _ | ⟨c4, _ | ⟨c5, cs⟩⟩⟩⟩⟩⟩ <;> simp at hlen
    exact ⟨c0, c1, c2, c3, c4, rfl⟩
  have hxl3 : xs.length = 3 := hxl
  have f0 := hf 0 ⟨ "What", 3, 0, false, "", "", 0⟩ rfl
  have f1 := hf 1 ⟨ "T", 29, 1, false, "", "", 8⟩ rfl
  have f2 := hf 2 ⟨ "At", 2, 4, false, "", "", 32⟩ rfl
  rw [cells3] at f0
  rw [cells2] at f2
  rw [cells29] at f1
  rw [List.getElem?_eq_getElem (by omega)] at f0 f1 f2
  obtain ⟨y0, e0, _, g0⟩ := DataW.trod_int Try.underlying3 f0
  obtain ⟨y1, y2, y3, e1, hB⟩ := three_parts f1
  obtain ⟨y4, e2, _, g4⟩ := DataW.trod_int Try.underlying2 f2
  simp at e0 e1 e2
  obtain ⟨rfl, rfl, rfl⟩ := e1
  subst e0 e2
  exact ⟨y0, y1, y2, y3, y4, rfl, wf64 g0, hB, wf64 g4⟩
set_option maxRecDepth 100000 in
theorem arg_act {H : Type} {enc : TypeId × Value → H} {W : World} {r : Reach} {b0 base : Nat} {spare : Nat → Bool} {v : Value} {d : DataW H} {p : List MemPlace} (hv : Value.okWide Try.prog W r b0 31 v) (h : DataW.Trod enc Try.prog W base spare true 31 v d p) :
    ∃ wt k a n dd : Int, v = .agg #[.int .i64 wt, .int .i64 k, .int .u32 a, .int .i64 n, .int .i64 dd] ∧ ActB wt k a n dd := by
  obtain ⟨cs, rfl, hsz⟩ := okWide_struct Try.underlying31 hv
  obtain ⟨fuel, hf⟩ := h
  obtain ⟨y0, y1, y2, y3, y4, e, hB⟩ := five_parts hf
  obtain ⟨l⟩ := cs
  simp [Value.cells] at e
  subst e
  exact ⟨y0, y1, y2, y3, y4, rfl, hB⟩
set_option maxRecDepth 100000 in
theorem arg_acts {H : Type} {enc : TypeId × Value → H} {W : World} {base : Option Addr} {len cap : Nat} {d : DataW H} {p : List MemPlace} (h : DataW.Trod enc Try.prog W 0 (fun _ => true) true 22 (.slice base len cap) d p) (hlt : ∀ x ∈ p, x.block < W.heap.size) :
    ∃ (b o : Nat) (wt kd a n dd : Nat → Int), ActsIn W base b o len wt kd a n dd ∧ len ≤ 9223372036854775807 := by
  obtain ⟨fuel, hf⟩ := h
  have z : ActB 0 0 0 0 0 := ⟨by omega, ⟨by omega, by omega, by omega⟩, by omega⟩
  rcases Deep.open_slice Try.underlying22 hf with ⟨hcs, hx⟩ | ⟨a, len', cap', m, n, D, Pl, hcs, _, hl, hm, hmm, hx, hi⟩
  · simp [Value.cells] at hcs
    obtain ⟨rfl, rfl, rfl⟩ := hcs
    exact ⟨0, 0, fun _ => 0, fun _ => 0, fun _ => 0, fun _ => 0, fun _ => 0, ⟨fun h => by omega, fun h => by omega, fun i hi => by omega, fun _ => z⟩, by omega⟩
  · simp [Value.cells] at hcs
    obtain ⟨rfl, rfl, rfl⟩ := hcs
    simp only [if_true] at hmm
    subst hmm
    rw [cells31] at hi hx
    unfold maxLen at hm
    obtain ⟨b, o, spot⟩ := a
    have hs : 0 < len → spot = none := by
      intro h0
      obtain ⟨cs', hc, ht⟩ := hi 0 (by omega)
      obtain ⟨y0, y1, y2, y3, y4, rfl, hB⟩ := five_parts ht
      obtain ⟨_, hcl, hat⟩ := World.cells?_some hc
      have := World.cell?_spot (hat 0 (by omega))
      simpa [Addr.add] using this
    have key : ∀ i, ∃ t : Int × Int × Int × Int × Int, (i < len → ActIs W b (o + i * 5) t.1 t.2.1 t.2.2.1 t.2.2.2.1 t.2.2.2.2) ∧ ActB t.1 t.2.1 t.2.2.1 t.2.2.2.1 t.2.2.2.2 := by
      intro i
      by_cases hil : i < len
      · obtain ⟨cs', hc, ht⟩ := hi i (by omega)
        obtain ⟨y0, y1, y2, y3, y4, rfl, hB⟩ := five_parts ht
        obtain ⟨_, hcl, hat⟩ := World.cells?_some hc
        obtain rfl := hs (by omega)
        have a0 := hat 0 (by omega)
        have a1 := hat 1 (by omega)
        have a2 := hat 2 (by omega)
        have a3 := hat 3 (by omega)
        have a4 := hat 4 (by omega)
        simp only [add_plain0] at a0 a1 a2 a3 a4
        exact ⟨(y0, y1, y2, y3, y4), fun _ => ⟨a0, a1, a2, a3, a4⟩, hB⟩
      · exact ⟨(0, 0, 0, 0, 0), fun h => absurd h hil, z⟩
    obtain ⟨g, hk⟩ := Classical.axiomOfChoice key
    by_cases h0 : 0 < len
    · obtain rfl := hs h0
      refine ⟨b, o, fun i => (g i).1, fun i => (g i).2.1, fun i => (g i).2.2.1, fun i => (g i).2.2.2.1, fun i => (g i).2.2.2.2, ⟨fun _ => ?_, fun _ => rfl, fun i hi => (hk i).1 hi, fun i => (hk i).2⟩, by omega⟩
      have hx2 := (Prod.mk.inj hx).2
      have : MemPlace.cell b o ∈ p := by
        rw [hx2]
        exact List.mem_append_left _ (MemPlace.mem_row.2 ⟨0, by omega, by simp⟩)
      exact hlt _ this
    · exact ⟨0, 0, fun _ => 0, fun _ => 0, fun _ => 0, fun _ => 0, fun _ => 0, ⟨fun h => absurd h h0, fun h => absurd h h0, fun i hi => absurd (Nat.lt_of_le_of_lt (Nat.zero_le _) hi) h0, fun _ => z⟩, by omega⟩
end Go.Proofs.Ytkigoihdmojpfaa
