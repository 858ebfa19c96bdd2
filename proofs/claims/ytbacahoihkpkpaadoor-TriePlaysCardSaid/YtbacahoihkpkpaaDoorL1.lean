/- Merged: L0 L1. -/
import Derived.Test.YtbacahoihkpkpaaDoorCards
import Derived.Test.YtbacahoihkpkpaaDoorTie
import Derived.Test.YtbacahoihkpkpaaDoorT29
import Derived.WalkKit
import Derived.ProofKit
import Derived.OpenShut
import Derived.Deep.DeepHandedRow
import Derived.Deep.Slices
import Derived.Lib.LaidTab
import Derived.Lib.SmallJoins
import Derived.Lib.AppendIntMem
import Derived.Laws.IdiomArrays
import Derived.LaidMore
import Derived.LaidSub
/- What every lift of this seat uses: what the row's condition on prefix.rels gives; a list of prefixes that came in, opened. -/
namespace Go.Proofs.YtbacahoihkpkpaaDoor
open Go.ChangeShapes Go.WideShapes Go.ChangeAt Go.RowKit

theorem laidOut : laidOutB Tryd.prog = true := by kernel_rfl
theorem own : ownKnob Tryd.prog.godebug = none := by kernel_rfl
theorem gRels : Tryd.prog.globalNamed "waywarden/prefix.rels" = some 0 := by kernel_rfl
theorem tRels : (Tryd.prog.globals[0]?).map (·.type) = some 140 := by kernel_rfl
theorem cells140 : Tryd.prog.cellsOf 140 = 4 := by kernel_rfl
theorem cells139 : Tryd.prog.cellsOf 139 = 2 := by kernel_rfl
theorem cells135 : Tryd.prog.cellsOf 135 = 1 := by kernel_rfl

theorem cells_of_rels {H : Type} {enc : TypeId × Value → H} {w : World} {base : Nat} {sp : Nat → Bool} {held : Bool} {fuel : Nat} {cs : List Value} {p : List MemPlace}
    (h : DataW.trod enc Tryd.prog w base sp held fuel 140 cs = some (Rows.laid_waywarden_prefix_rels, p)) : cs = [.int .i64 4, .int .i64 2, .int .i64 3, .int .i64 1] := by
  cases fuel with
  | zero => simp [DataW.trod] at h
  | succ fuel =>
    simp only [DataW.trod, Tryd.underlying140, cells139, cells140] at h
    split at h
    · rename_i hl
      obtain ⟨xs, hm, hx⟩ := Option.map_eq_some_iff.1 h
      obtain ⟨b0, e0, f0⟩ := Lib.mapM_at hm 0 0 (by simp)
      obtain ⟨b1, e1, f1⟩ := Lib.mapM_at hm 1 1 (by simp)
      have hxl : xs.length = 2 := by simpa using Lib.mapM_length hm
      match xs, hxl with
      | [x0, x1], _ =>
        simp at e0 e1
        subst e0 e1
        have hx1 := congrArg Prod.fst hx
        simp only [Rows.laid_waywarden_prefix_rels, DataW.agg.injEq, List.map_cons, List.map_nil, List.cons.injEq, and_true] at hx1
        obtain ⟨g0, g1⟩ := hx1
        obtain ⟨d0, p0⟩ := x0
        obtain ⟨d1, p1⟩ := x1
        simp only at g0 g1
        subst g0 g1
        have k0 := Lib.cells_of_tab (k := .i64) (zs := [4, 2]) Tryd.underlying139 Tryd.underlying135 cells135 cells139 f0
        have k1 := Lib.cells_of_tab (k := .i64) (zs := [3, 1]) Tryd.underlying139 Tryd.underlying135 cells135 cells139 f1
        match cs, hl with
        | [c0, c1, c2, c3], _ =>
          simp at k0 k1
          simp [k0, k1]
    · cases h

theorem rels_of {W : World} {laid : List (String × DataW Unit)} (h : laidMetH Tryd.prog laid W) (hf : laid.filter (fun x => x.1 == "waywarden/prefix.rels") = [("waywarden/prefix.rels", Rows.laid_waywarden_prefix_rels)])
    (hp : (laid.all fun x => x.2.handleName?.isNone) = true) : RelsAt W := by
  rw [MakeChecks.laidMetH_plain _ _ _ hp] at h
  have h2 := h.filter (fun x => x.1 == "waywarden/prefix.rels")
  rw [hf] at h2
  obtain ⟨ps, ⟨g', t', cs, fuel, p, q, hg', ht', hvar, hd, _, _⟩, _⟩ := h2
  obtain rfl := Option.some.inj (gRels.symm.trans hg')
  obtain rfl := Option.some.inj (tRels.symm.trans ht')
  have hc := cells_of_rels hd
  obtain ⟨l⟩ := cs
  simp only at hc
  subst hc
  have hv := fun i => World.var?_cell hg' hvar i
  refine ⟨?_, ?_, ?_, ?_⟩
  · have := hv 0; simpa using this
  · have := hv 1; simpa using this
  · have := hv 2; simpa using this
  · have := hv 3; simpa using this

theorem cells26 : Tryd.prog.cellsOf 26 = 2 := by kernel_rfl
theorem cells24 : Tryd.prog.cellsOf 24 = 1 := by kernel_rfl
theorem cells3 : Tryd.prog.cellsOf 3 = 1 := by kernel_rfl
theorem wf64 {x : Int} (h : (Lit.int .i64 x).wf = true) : -9223372036854775808 ≤ x ∧ x ≤ 9223372036854775807 := by
  simp [Lit.wf, IntKind.min, IntKind.max, IntKind.bits, IntKind.signed] at h; omega
theorem wf32 {x : Int} (h : (Lit.int .u32 x).wf = true) : 0 ≤ x ∧ x < 4294967296 := by
  simp [Lit.wf, IntKind.min, IntKind.max, IntKind.bits, IntKind.signed] at h; omega

theorem add_plain0 (b o k : Nat) : Addr.add ⟨b, o, none⟩ k = ⟨b, o + k, none⟩ := by unfold Addr.add; split <;> simp_all

def PfxB (a n : Int) : Prop := (0 ≤ a ∧ a < 4294967296) ∧ -9223372036854775808 ≤ n ∧ n ≤ 9223372036854775807
set_option maxRecDepth 100000 in
theorem two_parts {H : Type} {enc : TypeId × Value → H} {W : World} {spare : Nat → Bool} {base n : Nat} {cs : List Value} {x : DataW H × List MemPlace} (h : DataW.trod enc Tryd.prog W base spare true n 26 cs = some x) :
    ∃ a n : Int, cs = [.int .u32 a, .int .i64 n] ∧ PfxB a n := by
  obtain ⟨xs, n', hn', hx, hlen, hxl, hf⟩ := DataW.trod_struct Tryd.underlying26 h
  rw [cells26] at hlen
  obtain ⟨c0, c1, rfl⟩ : ∃ c0 c1, cs = [c0, c1] := by
    rcases cs with _ | ⟨c0, _ | ⟨c1, _ | ⟨c2, cs⟩⟩⟩ <;> simp at hlen
    exact ⟨c0, c1, rfl⟩
  have hxl2 : xs.length = 2 := hxl
  have f0 := hf 0 ⟨ "Addr", 24, 0, false, "", "", 0⟩ rfl
  have f1 := hf 1 ⟨ "Len", 3, 1, false, "", "", 8⟩ rfl
  rw [cells24] at f0
  rw [cells3] at f1
  rw [List.getElem?_eq_getElem (by omega)] at f0 f1
  obtain ⟨y0, e0, _, g0⟩ := DataW.trod_int Tryd.underlying24 f0
  obtain ⟨y1, e1, _, g1⟩ := DataW.trod_int Tryd.underlying3 f1
  simp at e0 e1
  subst e0 e1
  exact ⟨y0, y1, rfl, wf32 g0, wf64 g1⟩

set_option maxRecDepth 100000 in
theorem arg_pfxs {H : Type} {enc : TypeId × Value → H} {W : World} {base : Option Addr} {len cap : Nat} {d : DataW H} {p : List MemPlace} (h0W : 0 < W.heap.size) (h : DataW.Trod enc Tryd.prog W 0 (fun _ => true) true 50 (.slice base len cap) d p) (hlt : ∀ x ∈ p, x.block < W.heap.size) :
    ∃ (b o : Nat) (pa pn : Nat → Int), PIn W base b o len pa pn ∧ len ≤ 9223372036854775807 := by
  obtain ⟨fuel, hf⟩ := h
  have z : PfxB 0 0 := ⟨by omega, by omega⟩
  rcases Deep.open_slice Tryd.underlying50 hf with ⟨hcs, hx⟩ | ⟨a, len', cap', m, n, D, Pl, hcs, _, hl, hm, hmm, hx, hi⟩
  · simp [Value.cells] at hcs
    obtain ⟨rfl, rfl, rfl⟩ := hcs
    exact ⟨0, 0, fun _ => 0, fun _ => 0, ⟨h0W, fun h => by omega, fun i hi => by omega, fun _ => z⟩, by omega⟩
  · simp [Value.cells] at hcs
    obtain ⟨rfl, rfl, rfl⟩ := hcs
    simp only [if_true] at hmm
    subst hmm
    rw [cells26] at hi hx
    unfold maxLen at hm
    obtain ⟨b, o, spot⟩ := a
    have hs : 0 < len → spot = none := by
      intro h0
      obtain ⟨cs', hc, ht⟩ := hi 0 (by omega)
      obtain ⟨y0, y1, rfl, hB⟩ := two_parts ht
      obtain ⟨_, hcl, hat⟩ := World.cells?_some hc
      have := World.cell?_spot (hat 0 (by omega))
      simpa [Addr.add] using this
    have key : ∀ i, ∃ t : Int × Int, (i < len → W.cell? ⟨b, o + i * 2, none⟩ = some (.int .u32 t.1) ∧ W.cell? ⟨b, o + i * 2 + 1, none⟩ = some (.int .i64 t.2)) ∧ PfxB t.1 t.2 := by
      intro i
      by_cases hil : i < len
      · obtain ⟨cs', hc, ht⟩ := hi i (by omega)
        obtain ⟨y0, y1, rfl, hB⟩ := two_parts ht
        obtain ⟨_, hcl, hat⟩ := World.cells?_some hc
        obtain rfl := hs (by omega)
        have a0 := hat 0 (by omega)
        have a1 := hat 1 (by omega)
        simp only [add_plain0] at a0 a1
        exact ⟨(y0, y1), fun _ => ⟨a0, a1⟩, hB⟩
      · exact ⟨(0, 0), fun h => absurd h hil, z⟩
    obtain ⟨g, hk⟩ := Classical.axiomOfChoice key
    by_cases h0 : 0 < len
    · obtain rfl := hs h0
      refine ⟨b, o, fun i => (g i).1, fun i => (g i).2, ⟨?_, fun _ => rfl, fun i hi => (hk i).1 hi, fun i => (hk i).2⟩, by omega⟩
      have hx2 := (Prod.mk.inj hx).2
      have : MemPlace.cell b o ∈ p := by
        rw [hx2]
        exact List.mem_append_left _ (MemPlace.mem_row.2 ⟨0, by omega, by simp⟩)
      exact hlt _ this
    · exact ⟨0, 0, fun _ => 0, fun _ => 0, ⟨h0W, fun h => absurd h h0, fun i hi => absurd (Nat.lt_of_le_of_lt (Nat.zero_le _) hi) h0, fun _ => z⟩, by omega⟩
end Go.Proofs.YtbacahoihkpkpaaDoor
/- Calls that came in, opened; a prefix that came in, opened. -/
namespace Go.Proofs.YtbacahoihkpkpaaDoor
open Go.ChangeShapes Go.WideShapes Go.ChangeAt Go.RowKit

structure ActB (what a n val : Int) : Prop where
  w : -9223372036854775808 ≤ what ∧ what ≤ 9223372036854775807
  a : 0 ≤ a ∧ a < 4294967296
  n : -9223372036854775808 ≤ n ∧ n ≤ 9223372036854775807
  v : -9223372036854775808 ≤ val ∧ val ≤ 9223372036854775807
/-- a call in memory -/
structure ActIs (W : World) (b o : Nat) (what a n val : Int) : Prop where
  c0 : W.cell? ⟨b, o, none⟩ = some (.int .i64 what)
  c1 : W.cell? ⟨b, o + 1, none⟩ = some (.int .u32 a)
  c2 : W.cell? ⟨b, o + 2, none⟩ = some (.int .i64 n)
  c3 : W.cell? ⟨b, o + 3, none⟩ = some (.int .i64 val)
/-- a list of calls that came in -/
structure ActsIn (W : World) (base : Option Addr) (b o k : Nat) (what a n val : Nat → Int) : Prop where
  lt : b < W.heap.size
  is : 0 < k → base = some ⟨b, o, none⟩
  c : ∀ i, i < k → ActIs W b (o + i * 4) (what i) (a i) (n i) (val i)
  bd : ∀ i, ActB (what i) (a i) (n i) (val i)
theorem ActsIn.below {w W : World} {base : Option Addr} {b o k : Nat} {what a n val : Nat → Int} (h : ActsIn w base b o k what a n val) (hb : Below w.heap.size w W) : ActsIn W base b o k what a n val :=
  ⟨Nat.lt_of_lt_of_le h.lt hb.size, h.is, fun i hi => ⟨(hb.cell (p := ⟨b, o + i * 4, none⟩) h.lt).trans (h.c i hi).c0, (hb.cell (p := ⟨b, o + i * 4 + 1, none⟩) h.lt).trans (h.c i hi).c1, (hb.cell (p := ⟨b, o + i * 4 + 2, none⟩) h.lt).trans (h.c i hi).c2, (hb.cell (p := ⟨b, o + i * 4 + 3, none⟩) h.lt).trans (h.c i hi).c3⟩, h.bd⟩

theorem cells61 : Tryd.prog.cellsOf 61 = 4 := by kernel_rfl
set_option maxRecDepth 100000 in
theorem four_parts {H : Type} {enc : TypeId × Value → H} {W : World} {spare : Nat → Bool} {base n : Nat} {cs : List Value} {x : DataW H × List MemPlace} (h : DataW.trod enc Tryd.prog W base spare true n 61 cs = some x) :
    ∃ what a n val : Int, cs = [.int .i64 what, .int .u32 a, .int .i64 n, .int .i64 val] ∧ ActB what a n val := by
  obtain ⟨xs, n', hn', hx, hlen, hxl, hf⟩ := DataW.trod_struct Tryd.underlying61 h
  rw [cells61] at hlen
  obtain ⟨c0, c1, c2, c3, rfl⟩ : ∃ c0 c1 c2 c3, cs = [c0, c1, c2, c3] := by
    rcases cs with _ | ⟨c0, _ | ⟨c1, _ | ⟨c2, _ | ⟨c3, _ | ⟨c4, cs⟩⟩⟩⟩⟩ <;> simp at hlen
    exact ⟨c0, c1, c2, c3, rfl⟩
  have hxl3 : xs.length = 3 := hxl
  have f0 := hf 0 ⟨ "What", 3, 0, false, "", "", 0⟩ rfl
  have f1 := hf 1 ⟨ "P", 26, 1, false, "", "", 8⟩ rfl
  have f2 := hf 2 ⟨ "Val", 3, 3, false, "", "", 24⟩ rfl
  rw [cells3] at f0 f2
  rw [cells26] at f1
  rw [List.getElem?_eq_getElem (by omega)] at f0 f1 f2
  obtain ⟨y0, e0, _, g0⟩ := DataW.trod_int Tryd.underlying3 f0
  obtain ⟨y1, y2, e1, hB⟩ := two_parts f1
  obtain ⟨y3, e2, _, g3⟩ := DataW.trod_int Tryd.underlying3 f2
  simp at e0 e1 e2
  obtain ⟨rfl, rfl⟩ := e1
  subst e0 e2
  exact ⟨y0, y1, y2, y3, rfl, wf64 g0, hB.1, hB.2, wf64 g3⟩

set_option maxRecDepth 100000 in
theorem arg_act {H : Type} {enc : TypeId × Value → H} {W : World} {r : Reach} {b0 base : Nat} {spare : Nat → Bool} {v : Value} {d : DataW H} {p : List MemPlace} (hv : Value.okWide Tryd.prog W r b0 61 v) (h : DataW.Trod enc Tryd.prog W base spare true 61 v d p) :
    ∃ what a n val : Int, v = .agg #[.int .i64 what, .int .u32 a, .int .i64 n, .int .i64 val] ∧ ActB what a n val := by
  obtain ⟨cs, rfl, hsz⟩ := okWide_struct Tryd.underlying61 hv
  obtain ⟨fuel, hf⟩ := h
  obtain ⟨y0, y1, y2, y3, e, hB⟩ := four_parts hf
  obtain ⟨l⟩ := cs
  simp [Value.cells] at e
  subst e
  exact ⟨y0, y1, y2, y3, rfl, hB⟩
set_option maxRecDepth 100000 in
theorem arg_pfx {H : Type} {enc : TypeId × Value → H} {W : World} {r : Reach} {b0 base : Nat} {spare : Nat → Bool} {v : Value} {d : DataW H} {p : List MemPlace} (hv : Value.okWide Tryd.prog W r b0 26 v) (h : DataW.Trod enc Tryd.prog W base spare true 26 v d p) :
    ∃ a n : Int, v = .agg #[.int .u32 a, .int .i64 n] ∧ PfxB a n := by
  obtain ⟨cs, rfl, hsz⟩ := okWide_struct Tryd.underlying26 hv
  obtain ⟨fuel, hf⟩ := h
  obtain ⟨y0, y1, e, hB⟩ := two_parts hf
  obtain ⟨l⟩ := cs
  simp [Value.cells] at e
  subst e
  exact ⟨y0, y1, rfl, hB⟩

set_option maxRecDepth 100000 in
theorem arg_acts {H : Type} {enc : TypeId × Value → H} {W : World} {base : Option Addr} {len cap : Nat} {d : DataW H} {p : List MemPlace} (h0W : 0 < W.heap.size) (h : DataW.Trod enc Tryd.prog W 0 (fun _ => true) true 22 (.slice base len cap) d p) (hlt : ∀ x ∈ p, x.block < W.heap.size) :
    ∃ (b o : Nat) (what a n val : Nat → Int), ActsIn W base b o len what a n val ∧ len ≤ 9223372036854775807 := by
  obtain ⟨fuel, hf⟩ := h
  have z : ActB 0 0 0 0 := ⟨by omega, by omega, by omega, by omega⟩
  rcases Deep.open_slice Tryd.underlying22 hf with ⟨hcs, hx⟩ | ⟨a, len', cap', m, n, D, Pl, hcs, _, hl, hm, hmm, hx, hi⟩
  · simp [Value.cells] at hcs
    obtain ⟨rfl, rfl, rfl⟩ := hcs
    exact ⟨0, 0, fun _ => 0, fun _ => 0, fun _ => 0, fun _ => 0, ⟨h0W, fun h => by omega, fun i hi => by omega, fun _ => z⟩, by omega⟩
  · simp [Value.cells] at hcs
    obtain ⟨rfl, rfl, rfl⟩ := hcs
    simp only [if_true] at hmm
    subst hmm
    rw [cells61] at hi hx
    unfold maxLen at hm
    obtain ⟨b, o, spot⟩ := a
    have hs : 0 < len → spot = none := by
      intro h0
      obtain ⟨cs', hc, ht⟩ := hi 0 (by omega)
      obtain ⟨y0, y1, y2, y3, rfl, hB⟩ := four_parts ht
      obtain ⟨_, hcl, hat⟩ := World.cells?_some hc
      have := World.cell?_spot (hat 0 (by omega))
      simpa [Addr.add] using this
    have key : ∀ i, ∃ t : Int × Int × Int × Int, (i < len → ActIs W b (o + i * 4) t.1 t.2.1 t.2.2.1 t.2.2.2) ∧ ActB t.1 t.2.1 t.2.2.1 t.2.2.2 := by
      intro i
      by_cases hil : i < len
      · obtain ⟨cs', hc, ht⟩ := hi i (by omega)
        obtain ⟨y0, y1, y2, y3, rfl, hB⟩ := four_parts ht
        obtain ⟨_, hcl, hat⟩ := World.cells?_some hc
        obtain rfl := hs (by omega)
        have a0 := hat 0 (by omega)
        have a1 := hat 1 (by omega)
        have a2 := hat 2 (by omega)
        have a3 := hat 3 (by omega)
        simp only [add_plain0] at a0 a1 a2 a3
        exact ⟨(y0, y1, y2, y3), fun _ => ⟨a0, a1, a2, a3⟩, hB⟩
      · exact ⟨(0, 0, 0, 0), fun h => absurd h hil, z⟩
    obtain ⟨g, hk⟩ := Classical.axiomOfChoice key
    by_cases h0 : 0 < len
    · obtain rfl := hs h0
      refine ⟨b, o, fun i => (g i).1, fun i => (g i).2.1, fun i => (g i).2.2.1, fun i => (g i).2.2.2, ⟨?_, fun _ => rfl, fun i hi => (hk i).1 hi, fun i => (hk i).2⟩, by omega⟩
      have hx2 := (Prod.mk.inj hx).2
      have : MemPlace.cell b o ∈ p := by
        rw [hx2]
        exact List.mem_append_left _ (MemPlace.mem_row.2 ⟨0, by omega, by simp⟩)
      exact hlt _ this
    · exact ⟨0, 0, fun _ => 0, fun _ => 0, fun _ => 0, fun _ => 0, ⟨h0W, fun h => absurd h h0, fun i hi => absurd (Nat.lt_of_le_of_lt (Nat.zero_le _) hi) h0, fun _ => z⟩, by omega⟩
end Go.Proofs.YtbacahoihkpkpaaDoor
