/- The map of neighbours: its keys, its records, how they read. -/
import Derived.Test.YtahkhecfnimdbaaDoorA0
import Derived.DeepKeys4
namespace Go.Proofs.YtahkhecfnimdbaaDoor
open Go.RowKit

theorem laidOut : laidOutB Tryd.prog = true := by kernel_rfl
theorem keyed66 : Maps.Keyed Tryd.prog 66 :=
  Maps.Keyed.of_law (deep_law_laid laidOut (m := 3) (by omega) (of_decide_eq_true (by kernel_rfl)) (by kernel_rfl) (by kernel_rfl))

/-- a key's value -/
def keyV (f a : Int) : Value := .agg #[.int .i64 f, .int .u32 a]
/-- what it reads as -/
def kl (f a : Int) : Lit := .string (keyBytes [.int .i64 f, .int .u32 a])

theorem kl_key (f a : Int) : WideAt.IsKeyLit (kl f a) := trivial

theorem keyOf66 (f a : Int) (hf : (Lit.int .i64 f).wf = true) (ha : (Lit.int .u32 a).wf = true) : keyOf Tryd.prog 66 (keyV f a) = some (kl f a) := by
  have h1 : Tryd.prog.keyType 66 = true := by kernel_rfl
  have h2 : 1 ≤ Tryd.prog.types.size := of_decide_eq_true (by kernel_rfl)
  obtain ⟨n, hn⟩ : ∃ n, Tryd.prog.types.size = n + 1 := ⟨Tryd.prog.types.size - 1, by omega⟩
  have h4 : Tryd.prog.cellsOf 66 = 2 := by kernel_rfl
  have h3 : (keyV f a).formed Tryd.prog 66 = true := by simp [Value.formed, keyV, Tryd.underlying66, h4]
  have h5 : Tryd.prog.cellsOf 3 = 1 := by kernel_rfl
  have h6 : Tryd.prog.cellsOf 31 = 1 := by kernel_rfl
  unfold keyOf
  rw [h1, h3, hn]
  simp [Tryd.underlying66, Tryd.underlying3, Tryd.underlying31, Program.keyLits, keyV, Value.cells, h4, h5, h6, hf, ha, kl]

def KB (f a : Int) : Prop := (-9223372036854775808 ≤ f ∧ f ≤ 9223372036854775807) ∧ (0 ≤ a ∧ a < 4294967296)
theorem KB.f {f a : Int} (h : KB f a) : (Lit.int .i64 f).wf = true := WalkArith.wf_i64 ⟨h.1.1, h.1.2⟩
theorem wf_u32 {a : Int} (h0 : 0 ≤ a) (h1 : a < 4294967296) : (Lit.int .u32 a).wf = true := by
  simp [Lit.wf, IntKind.min, IntKind.max, IntKind.bits, IntKind.signed]; omega
theorem kl_inj {f a f' a' : Int} (h : KB f a) (h' : KB f' a') (e : kl f a = kl f' a') : f = f' ∧ a = a' := by
  have h1 := keyOf66 f a h.f (wf_u32 h.2.1 h.2.2)
  have h2 := keyOf66 f' a' h'.f (wf_u32 h'.2.1 h'.2.2)
  rw [e] at h1
  have := keyed66.inj h1 h2
  unfold keyV at this
  simp at this
  exact this

structure Rec where
  face : Int
  addr : Int
  last : Int
  good : Int
  bad : Int
def recV (r : Rec) : Value := .agg #[.int .i64 r.face, .int .u32 r.addr, .int .i64 r.last, .int .i64 r.good, .int .i64 r.bad]
def recD (r : Rec) : DataW Unit := .agg [.lit (.int .i64 r.face), .lit (.int .u32 r.addr), .lit (.int .i64 r.last), .lit (.int .i64 r.good), .lit (.int .i64 r.bad)]
/-- how a record reads -/
def recR : Value → Option (DataW Unit × List MemPlace)
  | .agg ⟨[.int .i64 f, .int .u32 a, .int .i64 l, .int .i64 g, .int .i64 b]⟩ => some (recD ⟨f, a, l, g, b⟩, [])
  | _ => none
theorem recR_mk (r : Rec) : recR (recV r) = some (recD r, []) := rfl
theorem recR_inv {v : Value} {r : Rec} {ps : List MemPlace} (h : recR v = some (recD r, ps)) : v = recV r := by
  unfold recR at h
  split at h
  · simp [recD] at h
    obtain ⟨⟨h1, h2, h3, h4, h5⟩, _⟩ := h
    simp [recV, h1, h2, h3, h4, h5]
  · cases h
def zeroR : Rec := ⟨0, 0, 0, 0, 0⟩
theorem zero71 (w : World) : (zeroValue 71).run Tryd.prog w = .ok (recV zeroR) w := by kernel_rfl

def klR (r : Rec) : Lit := kl r.face r.addr
def atR (f a : Int) (r : Rec) : Bool := r.face == f && r.addr == a
def hasR (T : List Rec) (f a : Int) : Bool := T.any (atR f a)
def getR (T : List Rec) (f a : Int) : Rec := (T.find? (atR f a)).getD zeroR
/-- the record of its key is this one now -/
def upR (T : List Rec) (r : Rec) : List Rec := r :: T.filter fun s => !atR r.face r.addr s

def maxCount : Int := 2147483647
structure Rec.Wf (r : Rec) : Prop where
  key : KB r.face r.addr
  last : -9223372036854775808 ≤ r.last ∧ r.last ≤ 9223372036854775807
  good : 0 ≤ r.good ∧ r.good ≤ 2147483647
  bad : 0 ≤ r.bad ∧ r.bad ≤ 2147483647

theorem atR_iff {f a : Int} {r : Rec} : atR f a r = true ↔ r.face = f ∧ r.addr = a := by simp [atR]
theorem klR_same {f a : Int} {r : Rec} (hr : r.Wf) (h : KB f a) : (klR r).sameKey (kl f a) = atR f a r := by
  cases hs : (klR r).sameKey (kl f a) with
  | true =>
    have := kl_inj hr.key h (WideAt.sameKey_eq hs)
    exact (atR_iff.2 this).symm
  | false =>
    cases ha : atR f a r with
    | false => rfl
    | true =>
      obtain ⟨h1, h2⟩ := atR_iff.1 ha
      have : klR r = kl f a := by unfold klR; rw [h1, h2]
      rw [this, WideAt.sameKey_self (kl_key f a)] at hs
      cases hs

/-- neighbours in memory: at p, their map at m -/
structure NS (W : World) (p m : Nat) (T : List Rec) (now lost : Int) : Prop where
  box : W.heap[p]? = some (.cells #[.map (some m), .int .i64 now, .int .i64 lost] 64 (0, 0))
  map : ∃ D, W.ownsMap Tryd.prog 66 recR m T.length D ∧ Tab klR recD D T
  wf : ∀ r ∈ T, r.Wf

theorem own_tight {W : World} {m n : Nat} {D : DataW Unit} (h : W.ownsMap Tryd.prog 66 recR m n D) : W.ownsMap Tryd.prog 66 recR m (Maps.size D) D := by
  obtain ⟨es, clock, hb, F, hs, hD⟩ := h
  refine ⟨es, clock, hb, F, ?_, hD⟩
  rw [hD]
  simp [Maps.size, length_sorted]
theorem NS.of {W : World} {p m n : Nat} {T : List Rec} {now lost : Int} {D : DataW Unit} (hb : W.heap[p]? = some (.cells #[.map (some m), .int .i64 now, .int .i64 lost] 64 (0, 0)))
    (ho : W.ownsMap Tryd.prog 66 recR m n D) (ht : Tab klR recD D T) (hw : ∀ r ∈ T, r.Wf) : NS W p m T now lost :=
  ⟨hb, ⟨D, by have := own_tight ho; rw [ht.size] at this; exact this, ht⟩, hw⟩

section
variable {W : World} {p m : Nat} {T : List Rec} {now lost : Int} (h : NS W p m T now lost)
include h
theorem NS.plt : p < W.heap.size := (Array.getElem?_eq_some_iff.1 h.box).1
theorem NS.mlt : m < W.heap.size := by obtain ⟨D, ho, _⟩ := h.map; exact ho.lt
theorem NS.ne : p ≠ m := by
  intro e
  obtain ⟨D, ⟨es, clock, hb, _⟩, _⟩ := h.map
  rw [← e, h.box] at hb
  cases hb
theorem NS.c0 : W.cell? ⟨p, 0, none⟩ = some (.map (some m)) := by simp [World.cell?, h.box]
theorem NS.c1 : W.cell? ⟨p, 1, none⟩ = some (.int .i64 now) := by simp [World.cell?, h.box]
theorem NS.c2 : W.cell? ⟨p, 2, none⟩ = some (.int .i64 lost) := by simp [World.cell?, h.box]
theorem NS.f (o : Nat) : W.frozen? ⟨p, o, none⟩ = false := by simp [World.frozen?, h.box]
theorem NS.below {W' : World} (hb : Below W.heap.size W W') : NS W' p m T now lost := by
  obtain ⟨D, ho, ht⟩ := h.map
  exact ⟨(hb.block p h.plt).trans h.box, ⟨D, ho.kept (row := none) ⟨hb.os, hb.tape, hb.output, hb.size, fun j hj _ => hb.block j hj⟩ (by simp), ht⟩, h.wf⟩

theorem NS.look (f a : Int) (hk : KB f a) : (Instr.lookup 62 (.map (some m)) (keyV f a) true).run Tryd.prog W = .ok (.tuple #[recV (getR T f a), .bool (hasR T f a)]) W := by
  obtain ⟨D, ho, ht⟩ := h.map
  obtain ⟨v, ps, hrun, hv⟩ := ho.look_ok keyed66 Tryd.underlying62 (zero71 W) (recR_mk zeroR) (keyOf66 f a hk.f (wf_u32 hk.2.1 hk.2.2))
  have hhas : Maps.has D (kl f a) = hasR T f a := by
    rw [ht.has]
    unfold hasR
    rw [Bool.eq_iff_iff, List.any_eq_true, List.any_eq_true]
    constructor
    · rintro ⟨r, hr, hs⟩; exact ⟨r, hr, by rw [← klR_same (h.wf r hr) hk]; exact hs⟩
    · rintro ⟨r, hr, hs⟩; exact ⟨r, hr, by rw [klR_same (h.wf r hr) hk]; exact hs⟩
  have hval : D.atKey (kl f a) (recD zeroR) = recD (getR T f a) := by
    unfold getR
    cases hf : T.find? (atR f a) with
    | none =>
      rw [Option.getD_none]
      refine ht.at_not (fun r hr e => ?_) _
      have h1 := List.find?_eq_none.1 hf r hr
      apply h1
      exact atR_iff.2 (kl_inj (h.wf r hr).key hk e)
    | some r =>
      have hr := List.mem_of_find?_eq_some hf
      have ha := List.find?_some hf
      obtain ⟨h1, h2⟩ := atR_iff.1 ha
      rw [Option.getD_some]
      have := ht.at hr (recD zeroR)
      unfold klR at this
      rw [h1, h2] at this
      exact this
  rw [hhas] at hrun
  rw [hval] at hv
  rw [recR_inv hv] at hrun
  exact hrun
end
end Go.Proofs.YtahkhecfnimdbaaDoor
