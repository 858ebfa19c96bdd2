/- Timers: keys, rows, queues in memory. -/
import Derived.Test.YtkigoihdmojpfaaA2
import Derived.Test.YtkigoihdmojpfaaM2
import Derived.DeepKeys4
import Derived.Maps.OwnSet
import Derived.Laws.OwnMore
namespace Go.Proofs.Ytkigoihdmojpfaa
open Go.RowKit

theorem laidOut : laidOutB Try.prog = true := by kernel_rfl
theorem keyed29 : Maps.Keyed Try.prog 29 :=
  Maps.Keyed.of_law (deep_law_laid laidOut (m := 4) (by omega) (of_decide_eq_true (by kernel_rfl)) (by kernel_rfl) (by kernel_rfl))

/-- a timer's value -/
def keyV (k a n : Int) : Value := .agg #[.int .i64 k, .int .u32 a, .int .i64 n]
/-- what it reads as -/
def kl (k a n : Int) : Lit := .string (keyBytes [.int .i64 k, .int .u32 a, .int .i64 n])
theorem kl_key (k a n : Int) : WideAt.IsKeyLit (kl k a n) := trivial

theorem keyOf29 (k a n : Int) (hk : (Lit.int .i64 k).wf = true) (ha : (Lit.int .u32 a).wf = true) (hn : (Lit.int .i64 n).wf = true) : keyOf Try.prog 29 (keyV k a n) = some (kl k a n) := by
  have h1 : Try.prog.keyType 29 = true := by kernel_rfl
  have h2 : 2 ≤ Try.prog.types.size := of_decide_eq_true (by kernel_rfl)
  obtain ⟨m, hm⟩ : ∃ m, Try.prog.types.size = m + 1 + 1 := ⟨Try.prog.types.size - 2, by omega⟩
  have h4 : Try.prog.cellsOf 29 = 3 := by kernel_rfl
  have h3 : (keyV k a n).formed Try.prog 29 = true := by simp [Value.formed, keyV, Try.underlying29, h4]
  have h5 : Try.prog.cellsOf 3 = 1 := by kernel_rfl
  have h6 : Try.prog.cellsOf 25 = 1 := by kernel_rfl
  have h7 : Try.prog.cellsOf 23 = 1 := by kernel_rfl
  have h8 : Try.prog.cellsOf 27 = 2 := by kernel_rfl
  unfold keyOf
  rw [h1, h3, hm]
  simp [Try.underlying29, Try.underlying27, Try.underlying3, Try.underlying23, Try.underlying25, Program.keyLits, keyV, Value.cells, h4, h5, h6, h7, h8, hk, ha, hn, kl]
  rw [if_pos (fun i hi => by rcases (show i = 0 ∨ i = 1 by omega) with rfl | rfl <;> simp)]
  rfl

/-- what a timer may be at all -/
def KBt (k a n : Int) : Prop := (-9223372036854775808 ≤ k ∧ k ≤ 9223372036854775807) ∧ (0 ≤ a ∧ a < 4294967296) ∧ (-9223372036854775808 ≤ n ∧ n ≤ 9223372036854775807)
theorem KBt.k {k a n : Int} (h : KBt k a n) : (Lit.int .i64 k).wf = true := WalkArith.wf_i64 ⟨h.1.1, h.1.2⟩
theorem KBt.n {k a n : Int} (h : KBt k a n) : (Lit.int .i64 n).wf = true := WalkArith.wf_i64 ⟨h.2.2.1, h.2.2.2⟩
theorem KBt.a {k a n : Int} (h : KBt k a n) : (Lit.int .u32 a).wf = true := by
  have := h.2.1
  simp [Lit.wf, IntKind.min, IntKind.max, IntKind.bits, IntKind.signed]; omega
theorem KBt.of {k a n : Int} (h : KBt k a n) : keyOf Try.prog 29 (keyV k a n) = some (kl k a n) := keyOf29 k a n h.k h.a h.n
theorem kl_inj {k a n k' a' n' : Int} (h : KBt k a n) (h' : KBt k' a' n') (e : kl k a n = kl k' a' n') : k = k' ∧ a = a' ∧ n = n' := by
  have h1 := h.of
  have h2 := h'.of
  rw [e] at h1
  have := keyed29.inj h1 h2
  unfold keyV at this
  simp at this
  exact this

/-- a timer that may be -/
def rightT (k a n : Int) : Bool := if k = 3 then rightB a n else (decide (k = 1) || decide (k = 2)) && (decide (a = 0) && decide (n = 0))
def maxT : Int := 4611686018427387904
/-- what a row that stands in a queue is -/
structure TR.Wf (r : TR) : Prop where
  right : rightT r.kind r.addr r.len = true
  a0 : 0 ≤ r.addr
  a1 : r.addr < 4294967296
  d0 : 0 ≤ r.due
  d1 : r.due ≤ 4611686018427387904
theorem rightB_len {a n : Int} (h : rightB a n = true) : 0 ≤ n ∧ n ≤ 32 := by
  unfold rightB at h
  simp only [Bool.and_eq_true, decide_eq_true_eq] at h
  omega
theorem right_bd {k a n : Int} (h : rightT k a n = true) : (1 ≤ k ∧ k ≤ 3) ∧ 0 ≤ n ∧ n ≤ 32 := by
  unfold rightT at h
  split at h
  · have := rightB_len h; omega
  · simp at h; omega
theorem TR.Wf.kb {r : TR} (h : r.Wf) : KBt r.kind r.addr r.len := by
  have := right_bd h.right
  exact ⟨⟨by omega, by omega⟩, ⟨h.a0, h.a1⟩, ⟨by omega, by omega⟩⟩
def klT (r : TR) : Lit := kl r.kind r.addr r.len
def plD (x : TR × Nat) : DataW Unit := .lit (.int .i64 x.2)
theorem klT_inj {r s : TR} (hr : r.Wf) (hs : s.Wf) : klT r = klT s ↔ r.kind = s.kind ∧ r.addr = s.addr ∧ r.len = s.len := by
  constructor
  · exact kl_inj hr.kb hs.kb
  · rintro ⟨h1, h2, h3⟩; unfold klT; rw [h1, h2, h3]
theorem apart_kl {L : List TR} (h : ApartS L) (hw : ∀ r ∈ L, r.Wf) : L.Pairwise (fun r s => klT r ≠ klT s) :=
  List.Pairwise.imp_of_mem (fun {r s} hr hs hne e => hne ((klT_inj (hw r hr) (hw s hs)).1 e)) h

/-- a row's cells -/
def tC (r : TR) : List Value := [.int .i64 r.kind, .int .u32 r.addr, .int .i64 r.len, .int .i64 r.due]
def tCs (L : List TR) : List Value := L.flatMap tC
def rowV (r : TR) : Value := .agg #[.int .i64 r.kind, .int .u32 r.addr, .int .i64 r.len, .int .i64 r.due]
theorem tCs_len (L : List TR) : (tCs L).length = L.length * 4 := by
  induction L with
  | nil => rfl
  | cons r L ih =>
    have e : tCs (r :: L) = tC r ++ tCs L := by simp [tCs]
    rw [e, List.length_append, ih]
    simp [tC]
    omega
theorem tCs_append (L M : List TR) : tCs (L ++ M) = tCs L ++ tCs M := by simp [tCs]
theorem tCs_at {L : List TR} {i c : Nat} {r : TR} (h : L[i]? = some r) (hc : c < 4) : (tCs L)[i * 4 + c]? = (tC r)[c]? := by
  induction L generalizing i with
  | nil => simp at h
  | cons s L ih =>
    have e : tCs (s :: L) = tC s ++ tCs L := by simp [tCs]
    rw [e]
    cases i with
    | zero =>
      simp at h
      subst h
      rw [List.getElem?_append_left (by simp [tC]; omega)]
      simp
    | succ i =>
      rw [List.getElem?_append_right (by simp [tC]; omega)]
      have : (i + 1) * 4 + c - (tC s).length = i * 4 + c := by simp [tC]; omega
      rw [this]
      exact ih (by simpa using h)
theorem tCs_one (L : List TR) : ∀ u ∈ tCs L, u.oneCell' = true := by
  intro u hu
  obtain ⟨r, _, hr⟩ := List.mem_flatMap.1 hu
  simp [tC] at hr
  rcases hr with rfl | rfl | rfl | rfl <;> rfl
theorem tCs_ext {xs : List Value} {L : List TR} (hl : xs.length = L.length * 4) (h : ∀ i c r, L[i]? = some r → c < 4 → xs[i * 4 + c]? = (tC r)[c]?) : xs = tCs L := by
  apply List.ext_getElem?
  intro j
  by_cases hj : j < L.length * 4
  · obtain ⟨i, c, hc, rfl⟩ : ∃ i c, c < 4 ∧ j = i * 4 + c := ⟨j / 4, j % 4, by omega, by omega⟩
    obtain ⟨r, hr⟩ : ∃ r, L[i]? = some r := ⟨_, List.getElem?_eq_getElem (by omega)⟩
    rw [h i c r hr hc, tCs_at hr hc]
  · rw [List.getElem?_eq_none (by omega), List.getElem?_eq_none (by rw [tCs_len]; omega)]
theorem tCs_take (L : List TR) (k : Nat) : (tCs L).take (k * 4) = tCs (L.take k) := by
  refine tCs_ext ?_ ?_
  · rw [List.length_take, tCs_len, List.length_take]; omega
  · intro i c r hr hc
    rw [List.getElem?_take] at hr
    split at hr
    · rw [List.getElem?_take_of_lt (by omega)]
      exact tCs_at hr hc
    · cases hr

/-- rows behind a slice -/
structure SL (W : World) (base : Option Addr) (g o : Nat) (L : List TR) : Prop where
  lt : g < W.heap.size
  row : ∀ i r, L[i]? = some r → base = some ⟨g, o, none⟩ ∧ W.cell? ⟨g, o + i * 4, none⟩ = some (.int .i64 r.kind) ∧ W.cell? ⟨g, o + i * 4 + 1, none⟩ = some (.int .u32 r.addr) ∧ W.cell? ⟨g, o + i * 4 + 2, none⟩ = some (.int .i64 r.len) ∧ W.cell? ⟨g, o + i * 4 + 3, none⟩ = some (.int .i64 r.due)
theorem lt_of_block {W W' : World} {g : Nat} (h : g < W.heap.size) (e : W'.heap[g]? = W.heap[g]?) : g < W'.heap.size := by
  rcases Nat.lt_or_ge g W'.heap.size with h' | h'
  · exact h'
  · rw [Array.getElem?_eq_none h', Array.getElem?_eq_getElem h] at e; cases e
theorem SL.of_block {W W' : World} {base : Option Addr} {g o : Nat} {L : List TR} (h : SL W base g o L) (e : W'.heap[g]? = W.heap[g]?) : SL W' base g o L := by
  have hc : ∀ o, W'.cell? ⟨g, o, none⟩ = W.cell? ⟨g, o, none⟩ := fun o => World.cell?_of_block (w := W) (a := ⟨g, o, none⟩) e
  exact ⟨lt_of_block h.lt e, fun i r hr => by obtain ⟨h0, h1, h2, h3, h4⟩ := h.row i r hr; exact ⟨h0, (hc _).trans h1, (hc _).trans h2, (hc _).trans h3, (hc _).trans h4⟩⟩
theorem SL.below {W W' : World} {base : Option Addr} {g o : Nat} {L : List TR} (h : SL W base g o L) (hb : Below W.heap.size W W') : SL W' base g o L := h.of_block (hb.block g h.lt)
theorem SL.nil0 {W : World} (h : 0 < W.heap.size) (o : Nat) : SL W none 0 o [] := ⟨h, fun i r hr => by simp at hr⟩
theorem SL.take {W : World} {base : Option Addr} {g o : Nat} {L : List TR} (h : SL W base g o L) (n : Nat) : SL W base g o (L.take n) :=
  ⟨h.lt, fun i x hx => h.row i x (by rw [List.getElem?_take] at hx; split at hx; exact hx; cases hx)⟩
theorem SL.from {W : World} {base : Option Addr} {g o : Nat} {L : List TR} (h : SL W base g o L) (k : Nat) : SL W (some ⟨g, o + k * 4, none⟩) g (o + k * 4) (L.drop k) :=
  ⟨h.lt, fun i x hx => by
    obtain ⟨_, h1, h2, h3, h4⟩ := h.row (k + i) x (by rw [List.getElem?_drop] at hx; exact hx)
    have e : o + k * 4 + i * 4 = o + (k + i) * 4 := by rw [Nat.add_mul]; omega
    rw [e]
    exact ⟨rfl, h1, h2, h3, h4⟩⟩

/-- a row of one's own reads as rows behind a slice -/
theorem SL.of_own {W : World} {b : Nat} {v : Value} {L : List TR} (h0 : 0 < W.heap.size) (h : W.ownsRow b 85 4 v L.length (tCs L)) : ∃ base g cap, v = .slice base L.length cap ∧ L.length ≤ cap ∧ cap ≤ maxLen ∧ SL W base g 0 L ∧ (base = none ∨ base = some ⟨g, 0, none⟩) ∧ (∀ k, v.ownBlock = some k → k = g) ∧ (base = none → v = .slice none 0 0) := by
  rcases h.2 with ⟨rfl, hn⟩ | ⟨g, cap, cur, rfl, hb, hg, h1, h2, h3, h4⟩
  · have : L = [] := List.length_eq_zero_iff.1 hn
    subst this
    exact ⟨none, 0, 0, rfl, Nat.le_refl _, by unfold maxLen; omega, SL.nil0 h0 0, .inl rfl, fun k e => by simp [Value.ownBlock] at e, fun _ => rfl⟩
  · refine ⟨_, g, cap, rfl, h1, h2, ⟨(Array.getElem?_eq_some_iff.1 hg).1, fun i r hr => ?_⟩, .inr rfl, fun k e => by simp [Value.ownBlock] at e; exact e.symm, fun e => by cases e⟩
    have hil := (List.getElem?_eq_some_iff.1 hr).1
    have hc : ∀ c u, c < 4 → (tC r)[c]? = some u → W.cell? ⟨g, 0 + i * 4 + c, none⟩ = some u := fun c u hc hu => by
      rw [Nat.zero_add, h.cellAt _ (by omega), tCs_at hr hc, hu]
    exact ⟨rfl, hc 0 _ (by omega) rfl, hc 1 _ (by omega) rfl, hc 2 _ (by omega) rfl, hc 3 _ (by omega) rfl⟩

/-- the rows object at p -/
structure HS (W : World) (p m : Nat) (v : Value) (L : List TR) : Prop where
  box : W.heap[p]? = some (.cells #[v, .map (some m)] 74 (0, 0))
  row : W.ownsRow 0 85 4 v L.length (tCs L)
  map : ∃ D, W.ownsMap Try.prog 29 (plainElem (H := Unit) Try.prog 3) m L.length D ∧ Tab (kfp klT) plD D (idx L)
  wf : ∀ r ∈ L, r.Wf
  ap : ApartS L

section
variable {W : World} {p m : Nat} {v : Value} {L : List TR} (h : HS W p m v L)
include h
theorem HS.plt : p < W.heap.size := (Array.getElem?_eq_some_iff.1 h.box).1
theorem HS.mlt : m < W.heap.size := by obtain ⟨D, ho, _⟩ := h.map; exact ho.lt
theorem HS.pm : p ≠ m := by
  intro e
  obtain ⟨D, ⟨es, clock, hb, _⟩, _⟩ := h.map
  rw [← e, h.box] at hb
  cases hb
theorem HS.own {g : Nat} (hg : v.ownBlock = some g) : ∃ cur, W.heap[g]? = some (.cells cur 85 (0, 0)) := by
  rcases h.row.2 with ⟨rfl, _⟩ | ⟨g', cap, cur, rfl, hb, hg', _⟩
  · simp [Value.ownBlock] at hg
  · simp [Value.ownBlock] at hg
    subst hg
    exact ⟨cur, hg'⟩
theorem HS.pg {g : Nat} (hg : v.ownBlock = some g) : p ≠ g := by
  intro e
  obtain ⟨cur, hc⟩ := h.own hg
  rw [← e, h.box] at hc
  simp at hc
theorem HS.mg {g : Nat} (hg : v.ownBlock = some g) : m ≠ g := by
  intro e
  obtain ⟨cur, hc⟩ := h.own hg
  obtain ⟨D, ⟨es, clock, hb, _⟩, _⟩ := h.map
  rw [← e, hb] at hc
  cases hc
theorem HS.c0 : W.cell? ⟨p, 0, none⟩ = some v := by simp [World.cell?, h.box]
theorem HS.c1 : W.cell? ⟨p, 1, none⟩ = some (.map (some m)) := by simp [World.cell?, h.box]
theorem HS.f (o : Nat) : W.frozen? ⟨p, o, none⟩ = false := by simp [World.frozen?, h.box]
theorem HS.apk : L.Pairwise (fun r s => klT r ≠ klT s) := apart_kl h.ap h.wf
theorem HS.sl : ∃ base g cap, v = .slice base L.length cap ∧ L.length ≤ cap ∧ cap ≤ maxLen ∧ SL W base g 0 L ∧ (base = none ∨ base = some ⟨g, 0, none⟩) ∧ (∀ k, v.ownBlock = some k → k = g) ∧ (base = none → v = .slice none 0 0) :=
  SL.of_own (by have := h.plt; omega) h.row
theorem HS.kept {W' : World} (e1 : W'.heap[p]? = W.heap[p]?) (e2 : W'.heap[m]? = W.heap[m]?) (e3 : ∀ g, v.ownBlock = some g → W'.heap[g]? = W.heap[g]?) : HS W' p m v L := by
  refine ⟨e1.trans h.box, ⟨h.row.1, ?_⟩, ?_, h.wf, h.ap⟩
  · rcases h.row.2 with hn | ⟨g, cap, cur, rfl, hb, hg, rest⟩
    · exact .inl hn
    · exact .inr ⟨g, cap, cur, rfl, hb, (e3 g (by simp [Value.ownBlock])).trans hg, rest⟩
  · obtain ⟨D, ⟨es, clock, hb, rest⟩, ht⟩ := h.map
    exact ⟨D, ⟨es, clock, e2.trans hb, rest⟩, ht⟩
theorem HS.below {W' : World} (hb : Below W.heap.size W W') : HS W' p m v L :=
  h.kept (hb.block p h.plt) (hb.block m h.mlt) (fun g hg => by
    obtain ⟨cur, hc⟩ := h.own hg
    exact hb.block g (Array.getElem?_eq_some_iff.1 hc).1)
end
end Go.Proofs.Ytkigoihdmojpfaa
