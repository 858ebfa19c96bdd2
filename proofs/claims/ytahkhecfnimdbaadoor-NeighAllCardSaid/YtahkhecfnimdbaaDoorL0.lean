/- What every lift of this seat uses: the bounds of a face; a list of calls that came in, opened. -/
import Derived.Test.YtahkhecfnimdbaaDoorCards
import Derived.Test.YtahkhecfnimdbaaDoorTie
import Derived.Test.YtahkhecfnimdbaaDoorK12
import Derived.WalkKit
import Derived.ProofKit
import Derived.OpenShut
import Derived.Deep.DeepHandedRow
import Derived.Deep.Slices
import Derived.Lib.LaidTab
import Derived.Lib.SmallJoins
import Derived.Lib.AppendIntMem
import Derived.LaidMore
import Derived.LaidSub
namespace Go.Proofs.YtahkhecfnimdbaaDoor
open Go.ChangeShapes Go.WideShapes Go.ChangeAt Go.RowKit

theorem own : ownKnob Tryd.prog.godebug = none := by kernel_rfl
theorem gFace : Tryd.prog.globalNamed "waywarden/neigh.faceBounds" = some 0 := by kernel_rfl
theorem tFace : (Tryd.prog.globals[0]?).map (·.type) = some 67 := by kernel_rfl
theorem cells67 : Tryd.prog.cellsOf 67 = 2 := by kernel_rfl
theorem cells3 : Tryd.prog.cellsOf 3 = 1 := by kernel_rfl

theorem fb_of {W : World} (h : laidMetH Tryd.prog [("waywarden/neigh.faceBounds", .agg [.lit (.int .i64 0), .lit (.int .i64 15)])] W) : FB W := by
  rw [MakeChecks.laidMetH_plain _ _ _ (by kernel_rfl)] at h
  have hT : Lib.TabIs Tryd.prog W "waywarden/neigh.faceBounds" .i64 [0, 15] := Lib.tabIs_of_head (rest := []) gFace tFace Tryd.underlying67 Tryd.underlying3 cells3 cells67 h
  unfold Lib.TabIs World.var? at hT
  rw [gFace] at hT
  simp only [Option.bind_some] at hT
  cases hb : W.heap[0]? with
  | none => rw [hb] at hT; cases hT
  | some o =>
    rw [hb] at hT
    cases o with
    | cells cs ty fr =>
      simp only [Option.some.injEq] at hT
      subst hT
      exact ⟨by simp [World.cell?, hb], by simp [World.cell?, hb]⟩
    | _ => cases hT

theorem add_plain0 (b o k : Nat) : Addr.add ⟨b, o, none⟩ k = ⟨b, o + k, none⟩ := by unfold Addr.add; split <;> simp_all

/-- a call's numbers -/
structure ActB (what face bad addr more : Int) : Prop where
  w : -9223372036854775808 ≤ what ∧ what ≤ 9223372036854775807
  f : -9223372036854775808 ≤ face ∧ face ≤ 9223372036854775807
  b : -9223372036854775808 ≤ bad ∧ bad ≤ 9223372036854775807
  a : 0 ≤ addr ∧ addr < 4294967296
  m : -9223372036854775808 ≤ more ∧ more ≤ 9223372036854775807
theorem wf64 {x : Int} (h : (Lit.int .i64 x).wf = true) : -9223372036854775808 ≤ x ∧ x ≤ 9223372036854775807 := by
  simp [Lit.wf, IntKind.min, IntKind.max, IntKind.bits, IntKind.signed] at h; omega
theorem wf32 {x : Int} (h : (Lit.int .u32 x).wf = true) : 0 ≤ x ∧ x < 4294967296 := by
  simp [Lit.wf, IntKind.min, IntKind.max, IntKind.bits, IntKind.signed] at h; omega

theorem cells33 : Tryd.prog.cellsOf 33 = 5 := by kernel_rfl
theorem cells2 : Tryd.prog.cellsOf 2 = 1 := by kernel_rfl
theorem cells31 : Tryd.prog.cellsOf 31 = 1 := by kernel_rfl

set_option maxRecDepth 100000 in
theorem five_parts {H : Type} {enc : TypeId × Value → H} {W : World} {spare : Nat → Bool} {base n : Nat} {cs : List Value} {x : DataW H × List MemPlace} (h : DataW.trod enc Tryd.prog W base spare true n 33 cs = some x) :
    ∃ what face bad addr more : Int, cs = [.int .i64 what, .int .i64 face, .int .i64 bad, .int .u32 addr, .int .i64 more] ∧ ActB what face bad addr more := by
  obtain ⟨xs, n', hn', hx, hlen, hxl, hf⟩ := DataW.trod_struct Tryd.underlying33 h
  rw [cells33] at hlen
  obtain ⟨c0, c1, c2, c3, c4, rfl⟩ : ∃ c0 c1 c2 c3 c4, cs = [c0, c1, c2, c3, c4] := by
    rcases cs with _ | ⟨c0, _ | ⟨c1, _ | ⟨c2, _ | ⟨c3, _ | ⟨c4, _ | ⟨c5, cs⟩⟩⟩⟩⟩⟩ <;> simp at hlen
    exact ⟨c0, c1, c2, c3, c4, rfl⟩
  have hxl5 : xs.length = 5 := hxl
  have f0 := hf 0 ⟨ "What", 3, 0, false, "", "", 0⟩ rfl
  have f1 := hf 1 ⟨ "Face", 3, 1, false, "", "", 8⟩ rfl
  have f2 := hf 2 ⟨ "Bad", 3, 2, false, "", "", 16⟩ rfl
  have f3 := hf 3 ⟨ "Addr", 31, 3, false, "", "", 24⟩ rfl
  have f4 := hf 4 ⟨ "More", 2, 4, false, "", "", 32⟩ rfl
  rw [cells3] at f0 f1 f2
  rw [cells31] at f3
  rw [cells2] at f4
  rw [List.getElem?_eq_getElem (by omega)] at f0 f1 f2 f3 f4
  obtain ⟨y0, e0, _, g0⟩ := DataW.trod_int Tryd.underlying3 f0
  obtain ⟨y1, e1, _, g1⟩ := DataW.trod_int Tryd.underlying3 f1
  obtain ⟨y2, e2, _, g2⟩ := DataW.trod_int Tryd.underlying3 f2
  obtain ⟨y3, e3, _, g3⟩ := DataW.trod_int Tryd.underlying31 f3
  obtain ⟨y4, e4, _, g4⟩ := DataW.trod_int Tryd.underlying2 f4
  simp at e0 e1 e2 e3 e4
  subst e0 e1 e2 e3 e4
  exact ⟨y0, y1, y2, y3, y4, rfl, wf64 g0, wf64 g1, wf64 g2, wf32 g3, wf64 g4⟩

/-- a list of calls that came in -/
structure ActsIn (W : World) (base : Option Addr) (k : Nat) (b o : Nat) (what face bad addr more : Nat → Int) : Prop where
  at' : 0 < k → base = some ⟨b, o, none⟩ ∧ b < W.heap.size
  is : ∀ i, i < k → ActIs W b (o + i * 5) (what i) (face i) (bad i) (addr i) (more i)
  bd : ∀ i, ActB (what i) (face i) (bad i) (addr i) (more i)

set_option maxRecDepth 100000 in
theorem arg_acts {H : Type} {enc : TypeId × Value → H} {W : World} {base : Option Addr} {len cap : Nat} {d : DataW H} {p : List MemPlace} (h : DataW.Trod enc Tryd.prog W 0 (fun _ => true) true 22 (.slice base len cap) d p) (hlt : ∀ x ∈ p, x.block < W.heap.size) :
    ∃ (b o : Nat) (what face bad addr more : Nat → Int), ActsIn W base len b o what face bad addr more ∧ len ≤ 9223372036854775807 := by
  obtain ⟨fuel, hf⟩ := h
  have z : ActB 0 0 0 0 0 := ⟨by omega, by omega, by omega, by omega, by omega⟩
  rcases Deep.open_slice Tryd.underlying22 hf with ⟨hcs, hx⟩ | ⟨a, len', cap', m, n, D, Pl, hcs, _, hl, hm, hmm, hx, hi⟩
  · simp [Value.cells] at hcs
    obtain ⟨rfl, rfl, rfl⟩ := hcs
    exact ⟨0, 0, fun _ => 0, fun _ => 0, fun _ => 0, fun _ => 0, fun _ => 0, ⟨fun h => by omega, fun i hi => by omega, fun _ => z⟩, by omega⟩
  · simp [Value.cells] at hcs
    obtain ⟨rfl, rfl, rfl⟩ := hcs
    simp only [if_true] at hmm
    subst hmm
    rw [cells33] at hi hx
    unfold maxLen at hm
    obtain ⟨b, o, spot⟩ := a
    have hs : 0 < len → spot = none := by
      intro h0
      obtain ⟨cs', hc, ht⟩ := hi 0 (by omega)
      obtain ⟨y0, y1, y2, y3, y4, rfl, hB⟩ := five_parts ht
      obtain ⟨_, hcl, hat⟩ := World.cells?_some hc
      have := World.cell?_spot (hat 0 (by omega))
      simpa [Addr.add] using this
    have key : ∀ i, ∃ t : Int × Int × Int × Int × Int, (i < len → ActIs W b (o + i * 5) t.1 t.2.1 t.2.2.1 t.2.2.2.1 t.2.2.2.2) ∧ ActB t.1 t.2.1 t.2.2.1 t.2.2.2.1 t.2.2.2.2 := by
      intro i
      by_cases hil : i < len
      · obtain ⟨cs', hc, ht⟩ := hi i (by omega)
        obtain ⟨y0, y1, y2, y3, y4, rfl, hB⟩ := five_parts ht
        obtain ⟨_, hcl, hat⟩ := World.cells?_some hc
        obtain rfl := hs (by omega)
        have a0 := hat 0 (by omega)
        have a1 := hat 1 (by omega)
        have a2 := hat 2 (by omega)
        have a3 := hat 3 (by omega)
        have a4 := hat 4 (by omega)
        simp only [add_plain0] at a0 a1 a2 a3 a4
        exact ⟨(y0, y1, y2, y3, y4), fun _ => ⟨a0, a1, a2, a3, a4⟩, hB⟩
      · exact ⟨(0, 0, 0, 0, 0), fun h => absurd h hil, z⟩
    obtain ⟨g, hk⟩ := Classical.axiomOfChoice key
    refine ⟨b, o, fun i => (g i).1, fun i => (g i).2.1, fun i => (g i).2.2.1, fun i => (g i).2.2.2.1, fun i => (g i).2.2.2.2, ⟨fun h0 => ⟨?_, ?_⟩, fun i hi => (hk i).1 hi, fun i => (hk i).2⟩, by omega⟩
    · obtain rfl := hs h0
      rfl
    · have hx2 := (Prod.mk.inj hx).2
      have : MemPlace.cell b o ∈ p := by
        rw [hx2]
        exact List.mem_append_left _ (MemPlace.mem_row.2 ⟨0, by omega, by simp⟩)
      exact hlt _ this
end Go.Proofs.YtahkhecfnimdbaaDoor
