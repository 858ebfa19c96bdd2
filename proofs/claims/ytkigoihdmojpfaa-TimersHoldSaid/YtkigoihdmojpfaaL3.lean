/- Timers and times that came in, opened. -/
import Derived.Test.YtkigoihdmojpfaaL2
namespace Go.Proofs.Ytkigoihdmojpfaa
open Go.ChangeShapes Go.WideShapes Go.ChangeAt Go.RowKit

/-- a timer in memory -/
structure TimIs (W : World) (b o : Nat) (k a n : Int) : Prop where
  c0 : W.cell? ⟨b, o, none⟩ = some (.int .i64 k)
  c1 : W.cell? ⟨b, o + 1, none⟩ = some (.int .u32 a)
  c2 : W.cell? ⟨b, o + 2, none⟩ = some (.int .i64 n)
structure TimsIn (W : World) (base : Option Addr) (b o k : Nat) (kd a n : Nat → Int) : Prop where
  lt : 0 < k → b < W.heap.size
  is : 0 < k → base = some ⟨b, o, none⟩
  c : ∀ i, i < k → TimIs W b (o + i * 3) (kd i) (a i) (n i)
  bd : ∀ i, KBt (kd i) (a i) (n i)
theorem TimsIn.below {w W : World} {base : Option Addr} {b o k : Nat} {kd a n : Nat → Int} (h : TimsIn w base b o k kd a n) (hb : Below w.heap.size w W) : TimsIn W base b o k kd a n :=
  ⟨fun h0 => Nat.lt_of_lt_of_le (h.lt h0) hb.size, h.is, fun i hi => by
    have hl : b < w.heap.size := h.lt (by omega)
    exact ⟨(hb.cell (p := ⟨b, o + i * 3, none⟩) hl).trans (h.c i hi).c0, (hb.cell (p := ⟨b, o + i * 3 + 1, none⟩) hl).trans (h.c i hi).c1, (hb.cell (p := ⟨b, o + i * 3 + 2, none⟩) hl).trans (h.c i hi).c2⟩, h.bd⟩
structure L64In (W : World) (base : Option Addr) (b o k : Nat) (d : Nat → Int) : Prop where
  lt : 0 < k → b < W.heap.size
  is : 0 < k → base = some ⟨b, o, none⟩
  c : ∀ i, i < k → W.cell? ⟨b, o + i, none⟩ = some (.int .i64 (d i))
theorem L64In.below {w W : World} {base : Option Addr} {b o k : Nat} {d : Nat → Int} (h : L64In w base b o k d) (hb : Below w.heap.size w W) : L64In W base b o k d :=
  ⟨fun h0 => Nat.lt_of_lt_of_le (h.lt h0) hb.size, h.is, fun i hi => (hb.cell (p := ⟨b, o + i, none⟩) (h.lt (by omega))).trans (h.c i hi)⟩

set_option maxRecDepth 100000 in
theorem arg_tims {H : Type} {enc : TypeId × Value → H} {W : World} {base : Option Addr} {len cap : Nat} {d : DataW H} {p : List MemPlace} (h : DataW.Trod enc Try.prog W 0 (fun _ => true) true 55 (.slice base len cap) d p) (hlt : ∀ x ∈ p, x.block < W.heap.size) :
    ∃ (b o : Nat) (kd a n : Nat → Int), TimsIn W base b o len kd a n ∧ len ≤ 9223372036854775807 := by
  obtain ⟨fuel, hf⟩ := h
  have z : KBt 0 0 0 := ⟨by omega, by omega, by omega⟩
  rcases Deep.open_slice Try.underlying55 hf with ⟨hcs, hx⟩ | ⟨a, len', cap', m, n, D, Pl, hcs, _, hl, hm, hmm, hx, hi⟩
  · simp [Value.cells] at hcs
    obtain ⟨rfl, rfl, rfl⟩ := hcs
    exact ⟨0, 0, fun _ => 0, fun _ => 0, fun _ => 0, ⟨fun h => by omega, fun h => by omega, fun i hi => by omega, fun _ => z⟩, by omega⟩
  · simp [Value.cells] at hcs
    obtain ⟨rfl, rfl, rfl⟩ := hcs
    simp only [if_true] at hmm
    subst hmm
    rw [cells29] at hi hx
    unfold maxLen at hm
    obtain ⟨b, o, spot⟩ := a
    have hs : 0 < len → spot = none := by
      intro h0
      obtain ⟨cs', hc, ht⟩ := hi 0 (by omega)
      obtain ⟨y0, y1, y2, rfl, hB⟩ := three_parts ht
      obtain ⟨_, hcl, hat⟩ := World.cells?_some hc
      have := World.cell?_spot (hat 0 (by omega))
      simpa [Addr.add] using this
    have key : ∀ i, ∃ t : Int × Int × Int, (i < len → TimIs W b (o + i * 3) t.1 t.2.1 t.2.2) ∧ KBt t.1 t.2.1 t.2.2 := by
      intro i
      by_cases hil : i < len
      · obtain ⟨cs', hc, ht⟩ := hi i (by omega)
        obtain ⟨y0, y1, y2, rfl, hB⟩ := three_parts ht
        obtain ⟨_, hcl, hat⟩ := World.cells?_some hc
        obtain rfl := hs (by omega)
        have a0 := hat 0 (by omega)
        have a1 := hat 1 (by omega)
        have a2 := hat 2 (by omega)
        simp only [add_plain0] at a0 a1 a2
        exact ⟨(y0, y1, y2), fun _ => ⟨a0, a1, a2⟩, hB⟩
      · exact ⟨(0, 0, 0), fun h => absurd h hil, z⟩
    obtain ⟨g, hk⟩ := Classical.axiomOfChoice key
    by_cases h0 : 0 < len
    · obtain rfl := hs h0
      refine ⟨b, o, fun i => (g i).1, fun i => (g i).2.1, fun i => (g i).2.2, ⟨fun _ => ?_, fun _ => rfl, fun i hi => (hk i).1 hi, fun i => (hk i).2⟩, by omega⟩
      have hx2 := (Prod.mk.inj hx).2
      have : MemPlace.cell b o ∈ p := by
        rw [hx2]
        exact List.mem_append_left _ (MemPlace.mem_row.2 ⟨0, by omega, by simp⟩)
      exact hlt _ this
    · exact ⟨0, 0, fun _ => 0, fun _ => 0, fun _ => 0, ⟨fun h => absurd h h0, fun h => absurd h h0, fun i hi => absurd (Nat.lt_of_le_of_lt (Nat.zero_le _) hi) h0, fun _ => z⟩, by omega⟩
set_option maxRecDepth 100000 in
theorem arg_l64 {H : Type} {enc : TypeId × Value → H} {W : World} {base : Option Addr} {len cap : Nat} {d : DataW H} {p : List MemPlace} (h : DataW.Trod enc Try.prog W 0 (fun _ => true) true 56 (.slice base len cap) d p) (hlt : ∀ x ∈ p, x.block < W.heap.size) :
    ∃ (b o : Nat) (dd : Nat → Int), L64In W base b o len dd ∧ len ≤ 9223372036854775807 := by
  obtain ⟨fuel, hf⟩ := h
  rcases Deep.open_slice Try.underlying56 hf with ⟨hcs, hx⟩ | ⟨a, len', cap', m, n, D, Pl, hcs, _, hl, hm, hmm, hx, hi⟩
  · simp [Value.cells] at hcs
    obtain ⟨rfl, rfl, rfl⟩ := hcs
    exact ⟨0, 0, fun _ => 0, ⟨fun h => by omega, fun h => by omega, fun i hi => by omega⟩, by omega⟩
  · simp [Value.cells] at hcs
    obtain ⟨rfl, rfl, rfl⟩ := hcs
    simp only [if_true] at hmm
    subst hmm
    rw [cells2] at hi hx
    unfold maxLen at hm
    obtain ⟨b, o, spot⟩ := a
    have hs : 0 < len → spot = none := by
      intro h0
      obtain ⟨cs', hc, ht⟩ := hi 0 (by omega)
      obtain ⟨y0, rfl, _, _⟩ := DataW.trod_int Try.underlying2 ht
      obtain ⟨_, hcl, hat⟩ := World.cells?_some hc
      have := World.cell?_spot (hat 0 (by omega))
      simpa [Addr.add] using this
    have key : ∀ i, ∃ t : Int, (i < len → W.cell? ⟨b, o + i, none⟩ = some (.int .i64 t)) := by
      intro i
      by_cases hil : i < len
      · obtain ⟨cs', hc, ht⟩ := hi i (by omega)
        obtain ⟨y0, rfl, _, _⟩ := DataW.trod_int Try.underlying2 ht
        obtain ⟨_, hcl, hat⟩ := World.cells?_some hc
        obtain rfl := hs (by omega)
        have a0 := hat 0 (by omega)
        simp only [add_plain0, Nat.mul_one] at a0
        exact ⟨y0, fun _ => a0⟩
      · exact ⟨0, fun h => absurd h hil⟩
    obtain ⟨g, hk⟩ := Classical.axiomOfChoice key
    by_cases h0 : 0 < len
    · obtain rfl := hs h0
      refine ⟨b, o, fun i => g i, ⟨fun _ => ?_, fun _ => rfl, fun i hi => hk i hi⟩, by omega⟩
      have hx2 := (Prod.mk.inj hx).2
      have : MemPlace.cell b o ∈ p := by
        rw [hx2]
        exact List.mem_append_left _ (MemPlace.mem_row.2 ⟨0, by omega, by simp⟩)
      exact hlt _ this
    · exact ⟨0, 0, fun _ => 0, ⟨fun h => absurd h h0, fun h => absurd h h0, fun i hi => absurd (Nat.lt_of_le_of_lt (Nat.zero_le _) hi) h0⟩, by omega⟩
end Go.Proofs.Ytkigoihdmojpfaa
