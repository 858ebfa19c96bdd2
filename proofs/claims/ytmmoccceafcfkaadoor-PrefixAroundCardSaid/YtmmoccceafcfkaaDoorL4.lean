/- A list of prefixes that came in, opened; PrefixAround at every list. (Printed by gen_l4.py.) -/
import Derived.Test.YtmmoccceafcfkaaDoorL0
import Derived.Test.YtmmoccceafcfkaaDoorL1
import Derived.Test.YtmmoccceafcfkaaDoorV2
import Derived.Deep.DeepHandedRow
import Derived.Deep.Slices
import Derived.Lib.SmallJoins
namespace Go.Proofs.YtmmoccceafcfkaaDoor
open Go.ChangeShapes Go.WideShapes Go.ChangeAt Go.RowKit

theorem cells25 : Tryd.prog.cellsOf 25 = 2 := by kernel_rfl
theorem cells23 : Tryd.prog.cellsOf 23 = 1 := by kernel_rfl
theorem cells3 : Tryd.prog.cellsOf 3 = 1 := by kernel_rfl
theorem wf64 {x : Int} (h : (Lit.int .i64 x).wf = true) : -9223372036854775808 ≤ x ∧ x ≤ 9223372036854775807 := by
  simp [Lit.wf, IntKind.min, IntKind.max, IntKind.bits, IntKind.signed] at h; omega
theorem wf32 {x : Int} (h : (Lit.int .u32 x).wf = true) : 0 ≤ x ∧ x < 4294967296 := by
  simp [Lit.wf, IntKind.min, IntKind.max, IntKind.bits, IntKind.signed] at h; omega

theorem add_plain0 (b o k : Nat) : Addr.add ⟨b, o, none⟩ k = ⟨b, o + k, none⟩ := by unfold Addr.add; split <;> simp_all

def PfxB (a n : Int) : Prop := (0 ≤ a ∧ a < 4294967296) ∧ -9223372036854775808 ≤ n ∧ n ≤ 9223372036854775807
set_option maxRecDepth 100000 in
theorem two_parts {H : Type} {enc : TypeId × Value → H} {W : World} {spare : Nat → Bool} {base n : Nat} {cs : List Value} {x : DataW H × List MemPlace} (h : DataW.trod enc Tryd.prog W base spare true n 25 cs = some x) :
    ∃ a n : Int, cs = [.int .u32 a, .int .i64 n] ∧ PfxB a n := by
  obtain ⟨xs, n', hn', hx, hlen, hxl, hf⟩ := DataW.trod_struct Tryd.underlying25 h
  rw [cells25] at hlen
  obtain ⟨c0, c1, rfl⟩ : ∃ c0 c1, cs = [c0, c1] := by
    rcases cs with _ | ⟨c0, _ | ⟨c1, _ | ⟨c2, cs⟩⟩⟩ <;> simp at hlen
    exact ⟨c0, c1, rfl⟩
  have hxl2 : xs.length = 2 := hxl
  have f0 := hf 0 ⟨ "Addr", 23, 0, false, "", "", 0⟩ rfl
  have f1 := hf 1 ⟨ "Len", 3, 1, false, "", "", 8⟩ rfl
  rw [cells23] at f0
  rw [cells3] at f1
  rw [List.getElem?_eq_getElem (by omega)] at f0 f1
  obtain ⟨y0, e0, _, g0⟩ := DataW.trod_int Tryd.underlying23 f0
  obtain ⟨y1, e1, _, g1⟩ := DataW.trod_int Tryd.underlying3 f1
  simp at e0 e1
  subst e0 e1
  exact ⟨y0, y1, rfl, wf32 g0, wf64 g1⟩

/-- a list of prefixes that came in -/
structure PIn (W : World) (base : Option Addr) (b o k : Nat) (pa pn : Nat → Int) : Prop where
  lt : b < W.heap.size
  is : 0 < k → base = some ⟨b, o, none⟩
  c : ∀ i, i < k → W.cell? ⟨b, o + i * 2, none⟩ = some (.int .u32 (pa i)) ∧ W.cell? ⟨b, o + i * 2 + 1, none⟩ = some (.int .i64 (pn i))
  bd : ∀ i, PfxB (pa i) (pn i)
/-- as a list -/
def pinL (k : Nat) (pa pn : Nat → Int) : List Pf := (List.range k).map fun i => (pa i, pn i)
theorem pinL_len (k : Nat) (pa pn : Nat → Int) : (pinL k pa pn).length = k := by simp [pinL]
theorem PIn.ko {W : World} {base : Option Addr} {b o k : Nat} {pa pn : Nat → Int} (h : PIn W base b o k pa pn) : KO W base b o (pinL k pa pn) :=
  ⟨h.lt, fun i x hx => by
    have hi := (List.getElem?_eq_some_iff.1 hx).1
    rw [pinL_len] at hi
    have e : x = (pa i, pn i) := by
      unfold pinL at hx
      rw [List.getElem?_map, List.getElem?_range hi] at hx
      exact (Option.some.inj hx).symm
    subst e
    exact ⟨h.is (by omega), h.c i hi⟩⟩

set_option maxRecDepth 100000 in
theorem arg_pfxs {H : Type} {enc : TypeId × Value → H} {W : World} {base : Option Addr} {len cap : Nat} {d : DataW H} {p : List MemPlace} (h0W : 0 < W.heap.size) (h : DataW.Trod enc Tryd.prog W 0 (fun _ => true) true 86 (.slice base len cap) d p) (hlt : ∀ x ∈ p, x.block < W.heap.size) :
    ∃ (b o : Nat) (pa pn : Nat → Int), PIn W base b o len pa pn ∧ len ≤ 9223372036854775807 := by
  obtain ⟨fuel, hf⟩ := h
  have z : PfxB 0 0 := ⟨by omega, by omega⟩
  rcases Deep.open_slice Tryd.underlying86 hf with ⟨hcs, hx⟩ | ⟨a, len', cap', m, n, D, Pl, hcs, _, hl, hm, hmm, hx, hi⟩
  · simp [Value.cells] at hcs
    obtain ⟨rfl, rfl, rfl⟩ := hcs
    exact ⟨0, 0, fun _ => 0, fun _ => 0, ⟨h0W, fun h => by omega, fun i hi => by omega, fun _ => z⟩, by omega⟩
  · simp [Value.cells] at hcs
    obtain ⟨rfl, rfl, rfl⟩ := hcs
    simp only [if_true] at hmm
    subst hmm
    rw [cells25] at hi hx
    unfold maxLen at hm
    obtain ⟨b, o, spot⟩ := a
    have hs : 0 < len → spot = none := by
      intro h0
      obtain ⟨cs', hc, ht⟩ := hi 0 (by omega)
      obtain ⟨y0, y1, rfl, hB⟩ := two_parts ht
      obtain ⟨_, hcl, hat⟩ := World.cells?_some hc
      have := World.cell?_spot (hat 0 (by omega))
      simpa [Addr.add] using this
    have key : ∀ i, ∃ t : Int × Int, (i < len → W.cell? ⟨b, o + i * 2, none⟩ = some (.int .u32 t.1) ∧ W.cell? ⟨b, o + i * 2 + 1, none⟩ = some (.int .i64 t.2)) ∧ PfxB t.1 t.2 := by
      intro i
      by_cases hil : i < len
      · obtain ⟨cs', hc, ht⟩ := hi i (by omega)
        obtain ⟨y0, y1, rfl, hB⟩ := two_parts ht
        obtain ⟨_, hcl, hat⟩ := World.cells?_some hc
        obtain rfl := hs (by omega)
        have a0 := hat 0 (by omega)
        have a1 := hat 1 (by omega)
        simp only [add_plain0] at a0 a1
        exact ⟨(y0, y1), fun _ => ⟨a0, a1⟩, hB⟩
      · exact ⟨(0, 0), fun h => absurd h hil, z⟩
    obtain ⟨g, hk⟩ := Classical.axiomOfChoice key
    by_cases h0 : 0 < len
    · obtain rfl := hs h0
      refine ⟨b, o, fun i => (g i).1, fun i => (g i).2, ⟨?_, fun _ => rfl, fun i hi => (hk i).1 hi, fun i => (hk i).2⟩, by omega⟩
      have hx2 := (Prod.mk.inj hx).2
      have : MemPlace.cell b o ∈ p := by
        rw [hx2]
        exact List.mem_append_left _ (MemPlace.mem_row.2 ⟨0, by omega, by simp⟩)
      exact hlt _ this
    · exact ⟨0, 0, fun _ => 0, fun _ => 0, ⟨h0W, fun h => absurd h h0, fun i hi => absurd (Nat.lt_of_le_of_lt (Nat.zero_le _) hi) h0, fun _ => z⟩, by omega⟩
theorem PAround_all (pa pn many : Int) (hpa : 0 ≤ pa) (hpb : pa < 4294967296) (base : Option Addr) (b o n cap : Nat) (xa xn : Nat → Int) (w : World) (hn2 : n ≤ 9223372036854775807) (hx : PIn w base b o n xa xn) (hR : RelsAt w) :
    Calls Tryd.prog 12 #[.agg #[.int .u32 pa, .int .i64 pn], .slice base n cap, .int .i64 many] w fun e w' => e = .returned (.bool true) ∧ Below w.heap.size w w' := by
  by_cases h : 20 < n
  · exact PAround_long pa pn many base n cap w h hn2 hR
  · have := PAround_walk pa pn many hpa hpb base b o cap (pinL n xa xn) w hx.ko (by rw [pinL_len]; omega) hR
    rwa [pinL_len] at this
end Go.Proofs.YtmmoccceafcfkaaDoor
