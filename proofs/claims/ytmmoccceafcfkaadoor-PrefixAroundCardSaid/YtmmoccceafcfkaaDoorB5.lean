/- The contract of addr.Parse. -/
import Derived.Test.YtmmoccceafcfkaaDoorB4
import Derived.Test.YtmmoccceafcfkaaDoorM2
namespace Go.Proofs.YtmmoccceafcfkaaDoor
open Go.RowKit

/-- what holds of the world while Parse reads -/
structure PI (w0 : World) (s : ByteArray) (pos : Nat) (r : Rd) (w : World) : Prop where
  below : Below w0.heap.size w0 w
  size : w0.heap.size + 4 < w.heap.size
  it : w.heap[w0.heap.size + 4]? = some (.stringIter s pos)
  c0 : w.cell? ⟨w0.heap.size, 0, none⟩ = some (.int .u32 0)
  c1 : w.cell? ⟨w0.heap.size + 1, 0, none⟩ = some (.int .i64 0)
  c2 : w.cell? ⟨w0.heap.size + 2, 0, none⟩ = some (.int .i64 0)
  f0 : w.frozen? ⟨w0.heap.size, 0, none⟩ = false
  f1 : w.frozen? ⟨w0.heap.size + 1, 0, none⟩ = false
  f2 : w.frozen? ⟨w0.heap.size + 2, 0, none⟩ = false
  rd : ∀ i, i < 4 → w.cell? ⟨w0.heap.size + 3, i, none⟩ = some (.int .u8 (r.p i))
  r4 : w.cell? ⟨w0.heap.size + 3, 4, none⟩ = some (.int .i64 r.part)
  r5 : w.cell? ⟨w0.heap.size + 3, 5, none⟩ = some (.int .i64 r.digits)
  fr : ∀ o, w.frozen? ⟨w0.heap.size + 3, o, none⟩ = false

theorem cell_of_block {w w' : World} {a : Addr} (h : w'.heap[a.block]? = w.heap[a.block]?) : w'.cell? a = w.cell? a := World.cell?_of_block (w := w) h
theorem frozen_of_block {w w' : World} {a : Addr} (h : w'.heap[a.block]? = w.heap[a.block]?) : w'.frozen? a = w.frozen? a := World.frozen?_of_block (w := w) h

theorem PI.next {w0 : World} {s : ByteArray} {pos : Nat} {r : Rd} {w : World} (h : PI w0 s pos r w) (pos' : Nat) : PI w0 s pos' r (w.iterAt (w0.heap.size + 4) s pos') := by
  have o : ∀ j, j < w0.heap.size + 4 → (w.iterAt (w0.heap.size + 4) s pos').heap[j]? = w.heap[j]? := fun j hj => Lib.iterAt_other w _ j s pos' (by omega)
  refine ⟨Lib.below_iterAt h.below (by omega) s pos', by rw [Lib.iterAt_size]; exact h.size, Lib.iterAt_heap w _ s pos pos' h.it, ?_, ?_, ?_, ?_, ?_, ?_, ?_, ?_, ?_, ?_⟩
  · exact (cell_of_block (o _ (by show w0.heap.size < _; omega))).trans h.c0
  · exact (cell_of_block (o _ (by show w0.heap.size + 1 < _; omega))).trans h.c1
  · exact (cell_of_block (o _ (by show w0.heap.size + 2 < _; omega))).trans h.c2
  · exact (frozen_of_block (o _ (by show w0.heap.size < _; omega))).trans h.f0
  · exact (frozen_of_block (o _ (by show w0.heap.size + 1 < _; omega))).trans h.f1
  · exact (frozen_of_block (o _ (by show w0.heap.size + 2 < _; omega))).trans h.f2
  · exact fun i hi => (cell_of_block (o _ (by show w0.heap.size + 3 < _; omega))).trans (h.rd i hi)
  · exact (cell_of_block (o _ (by show w0.heap.size + 3 < _; omega))).trans h.r4
  · exact (cell_of_block (o _ (by show w0.heap.size + 3 < _; omega))).trans h.r5
  · exact fun i => (frozen_of_block (o _ (by show w0.heap.size + 3 < _; omega))).trans (h.fr i)

/-- what the results' cells are behind a step that only touches the reader -/
structure PR (w0 : World) (w : World) : Prop where
  below : Below w0.heap.size w0 w
  c0 : w.cell? ⟨w0.heap.size, 0, none⟩ = some (.int .u32 0)
  c1 : w.cell? ⟨w0.heap.size + 1, 0, none⟩ = some (.int .i64 0)
  c2 : w.cell? ⟨w0.heap.size + 2, 0, none⟩ = some (.int .i64 0)
  f0 : w.frozen? ⟨w0.heap.size, 0, none⟩ = false
  f1 : w.frozen? ⟨w0.heap.size + 1, 0, none⟩ = false
  f2 : w.frozen? ⟨w0.heap.size + 2, 0, none⟩ = false
theorem PI.only {w0 : World} {s : ByteArray} {pos : Nat} {r : Rd} {w w' : World} (h : PI w0 s pos r w) (o : Only (w0.heap.size + 3) w w') : PR w0 w' := by
  have hs := h.size
  have hb : ∀ j, j < w0.heap.size + 3 → w'.heap[j]? = w.heap[j]? := fun j hj => o.block j (by omega) (by omega)
  refine ⟨⟨o.os.trans h.below.os, o.tape.trans h.below.tape, o.output.trans h.below.output, Nat.le_trans h.below.size o.size, fun k hk => (hb k (by omega)).trans (h.below.block k hk)⟩, ?_, ?_, ?_, ?_, ?_, ?_⟩
  · exact (cell_of_block (hb _ (by show w0.heap.size < _; omega))).trans h.c0
  · exact (cell_of_block (hb _ (by show w0.heap.size + 1 < _; omega))).trans h.c1
  · exact (cell_of_block (hb _ (by show w0.heap.size + 2 < _; omega))).trans h.c2
  · exact (frozen_of_block (hb _ (by show w0.heap.size < _; omega))).trans h.f0
  · exact (frozen_of_block (hb _ (by show w0.heap.size + 1 < _; omega))).trans h.f1
  · exact (frozen_of_block (hb _ (by show w0.heap.size + 2 < _; omega))).trans h.f2
theorem PI.upd {w0 : World} {s : ByteArray} {pos : Nat} {r r' : Rd} {w w' : World} {k : Nat} {x y : Value} (h : PI w0 s pos r w) (u : Upd (w0.heap.size + 3) k x y w w')
    (e : ∀ i, i < 4 → w'.cell? ⟨w0.heap.size + 3, i, none⟩ = some (.int .u8 (r'.p i))) (e4 : w'.cell? ⟨w0.heap.size + 3, 4, none⟩ = some (.int .i64 r'.part)) (e5 : w'.cell? ⟨w0.heap.size + 3, 5, none⟩ = some (.int .i64 r'.digits)) : PI w0 s pos r' w' := by
  have hs := h.size
  have p := h.only u.only
  exact ⟨p.below, Nat.lt_of_lt_of_le hs u.only.size, (u.only.block _ hs (by omega)).trans h.it, p.c0, p.c1, p.c2, p.f0, p.f1, p.f2, e, e4, e5, fun o => (u.fr o).trans (h.fr o)⟩
theorem PI.dot {w0 : World} {s : ByteArray} {pos : Nat} {r : Rd} {w w' : World} (h : PI w0 s pos r w) (u : Upd (w0.heap.size + 3) 4 (.int .i64 (r.part + 1)) (.int .i64 0) w w') : PI w0 s pos ⟨r.p, r.part + 1, 0⟩ w' :=
  h.upd u (fun i hi => (u.other i (by omega) (by omega)).trans (h.rd i hi)) u.ck u.c5
theorem PI.digit {w0 : World} {s : ByteArray} {pos : Nat} {r : Rd} {w w' : World} {n : Int} (hp : r.part ≤ 3) (h : PI w0 s pos r w) (u : Upd (w0.heap.size + 3) r.part (.int .u8 n) (.int .i64 (r.digits + 1)) w w') :
    PI w0 s pos ⟨fun i => if i = r.part then n else r.p i, r.part, r.digits + 1⟩ w' := by
  refine h.upd u (fun i hi => ?_) ((u.other 4 (by omega) (by omega)).trans h.r4) u.c5
  by_cases e : i = r.part
  · subst e; rw [u.ck]; simp
  · rw [u.other i e (by omega), h.rd i hi]; simp [e]

theorem take_some {w0 : World} {s : ByteArray} {pos n : Nat} {r r' : Rd} {w : World} {c at' : Int} (h : PI w0 s pos r w) (ok : r.Ok n) (hn : n ≤ 1000000000000000) (e : r.step c = some r') :
    Calls Tryd.prog 67 #[.pointer (some ⟨w0.heap.size + 3, 0, none⟩), .int .i64 at', .int .i32 c] w fun e w' => e = .returned (.tuple #[]) ∧ PI w0 s pos r' w' := by
  have hd1 := ok.d1
  have hp := ok.part
  unfold Rd.step at e
  split at e
  · rename_i hc
    subst hc
    split at e
    · rename_i h2
      cases e
      exact (take_dot _ r.part at' r.digits w h2.1 h2.2 h.r4 h.r5 (h.fr 4) (h.fr 5)).mono fun _ _ ⟨he, u⟩ => ⟨he, h.dot u⟩
    · cases e
  · split at e
    · rename_i h2
      cases e
      obtain ⟨h3, h4, h5, h6⟩ := h2
      by_cases hz : r.digits = 0
      · exact (take_digit0 _ r.part at' r.digits c (r.p r.part) w h3 h4 ok.d0 (by omega) (by omega) (ok.p0 _) (ok.p1 _) hz h6 (h.rd _ (by omega)) h.r4 h.r5 (h.fr _) (h.fr 5)).mono fun _ _ ⟨he, u⟩ => ⟨he, h.digit hp u⟩
      · exact (take_digit1 _ r.part at' r.digits c (r.p r.part) w h3 h4 ok.d0 (by omega) (by omega) (ok.p0 _) (ok.p1 _) hz (by omega) h6 (h.rd _ (by omega)) h.r4 h.r5 (h.fr _) (h.fr 5)).mono fun _ _ ⟨he, u⟩ => ⟨he, h.digit hp u⟩
    · cases e
theorem take_none {w0 : World} {s : ByteArray} {pos n : Nat} {r : Rd} {w : World} {c at' : Int} (h : PI w0 s pos r w) (ok : r.Ok n) (hn : n ≤ 1000000000000000) (e : r.step c = none) :
    Calls Tryd.prog 67 #[.pointer (some ⟨w0.heap.size + 3, 0, none⟩), .int .i64 at', .int .i32 c] w fun e w' => e = .panicked [{ v := .iface 107 (.int .i64 at'), recovered := false }] ∧ PR w0 w' := by
  have hd1 := ok.d1
  have hp := ok.part
  unfold Rd.step at e
  split at e
  · rename_i hc
    subst hc
    split at e
    · cases e
    · rename_i h2
      by_cases hd : 0 < r.digits
      · exact (take_bad2 _ r.part at' r.digits w hd (by omega) h.r4 h.r5).mono fun _ _ ⟨he, u⟩ => ⟨he, h.only u⟩
      · exact (take_bad1 _ r.part at' r.digits w (by omega) h.r4 h.r5).mono fun _ _ ⟨he, u⟩ => ⟨he, h.only u⟩
  · rename_i hc
    split at e
    · cases e
    · rename_i h2
      by_cases h3 : 48 ≤ c
      · by_cases h4 : c ≤ 57
        · by_cases hz : r.digits = 0
          · exact (take_over0 _ r.part at' r.digits c (r.p r.part) w h3 h4 ok.d0 (by omega) (by omega) (ok.p0 _) (ok.p1 _) hz (by omega) (h.rd _ (by omega)) h.r4 h.r5 (h.fr _) (h.fr 5)).mono fun _ _ ⟨he, u⟩ => ⟨he, h.only u⟩
          · by_cases hq : r.p r.part = 0
            · have := h.rd r.part (by omega)
              rw [hq] at this
              exact (take_bad5 _ r.part at' r.digits c w h3 h4 hz (by omega) this h.r4 h.r5).mono fun _ _ ⟨he, u⟩ => ⟨he, h.only u⟩
            · exact (take_over1 _ r.part at' r.digits c (r.p r.part) w h3 h4 ok.d0 (by omega) (by omega) (ok.p0 _) (ok.p1 _) hz hq (by omega) (h.rd _ (by omega)) h.r4 h.r5 (h.fr _) (h.fr 5)).mono fun _ _ ⟨he, u⟩ => ⟨he, h.only u⟩
        · exact (take_bad4 _ r.part at' r.digits c w (by omega) h.r4 h.r5).mono fun _ _ ⟨he, u⟩ => ⟨he, h.only u⟩
      · exact (take_bad3 _ r.part at' r.digits c w (by omega) hc h.r4 h.r5).mono fun _ _ ⟨he, u⟩ => ⟨he, h.only u⟩

theorem PR.caught {w0 w w3 : World} {x y z : Value} (h : PR w0 w) (e : w3 = ((w.setCell ⟨w0.heap.size, 0, none⟩ x).setCell ⟨w0.heap.size + 1, 0, none⟩ y).setCell ⟨w0.heap.size + 2, 0, none⟩ z) :
    w3.cell? ⟨w0.heap.size, 0, none⟩ = some x ∧ w3.cell? ⟨w0.heap.size + 1, 0, none⟩ = some y ∧ w3.cell? ⟨w0.heap.size + 2, 0, none⟩ = some z ∧ Below w0.heap.size w0 w3 := by
  subst e
  have n01 : (⟨w0.heap.size + 1, 0, none⟩ : Addr) ≠ ⟨w0.heap.size, 0, none⟩ := fun e => by have := congrArg Addr.block e; simp at this
  have n02 : (⟨w0.heap.size + 2, 0, none⟩ : Addr) ≠ ⟨w0.heap.size, 0, none⟩ := fun e => by have := congrArg Addr.block e; simp at this
  have n12 : (⟨w0.heap.size + 2, 0, none⟩ : Addr) ≠ ⟨w0.heap.size + 1, 0, none⟩ := fun e => by have := congrArg Addr.block e; simp at this
  refine ⟨?_, ?_, ?_, ?_⟩
  · rw [World.cell?_setCell_other _ _ _ _ n02, World.cell?_setCell_other _ _ _ _ n01, World.cell?_setCell_same' _ _ _ (by rw [h.c0]; rfl)]
  · rw [World.cell?_setCell_other _ _ _ _ n12, World.cell?_setCell_same' _ _ _ (by rw [World.cell?_setCell_other _ _ _ _ n01.symm, h.c1]; rfl)]
  · rw [World.cell?_setCell_same' _ _ _ (by rw [World.cell?_setCell_other _ _ _ _ n12.symm, World.cell?_setCell_other _ _ _ _ n02.symm, h.c2]; rfl)]
  · exact ((h.below.setCell (p := ⟨w0.heap.size, 0, none⟩) (Nat.le_refl _) _).setCell (p := ⟨w0.heap.size + 1, 0, none⟩) (Nat.le_add_right _ _) _).setCell (p := ⟨w0.heap.size + 2, 0, none⟩) (Nat.le_add_right _ _) _

theorem parse_none {s : List UInt8} {pos : Nat} {r : Rd} (h : runR (s.drop pos) pos r = runR s 0 Rd.init) {c : UInt8} {t : List UInt8} (hd : s.drop pos = c :: t) (hs : r.step (c.toNat : Int) = none) : parseS s = (0, (pos : Int), 110) := by
  unfold parseS
  rw [← h, hd, runR, hs]
theorem run_some {s : List UInt8} {pos : Nat} {r r' : Rd} (h : runR (s.drop pos) pos r = runR s 0 Rd.init) {c : UInt8} {t : List UInt8} (hd : s.drop pos = c :: t) (hs : r.step (c.toNat : Int) = some r') : runR (s.drop (pos + 1)) (pos + 1) r' = runR s 0 Rd.init := by
  rw [← h, hd, runR, hs]
  have : s.drop (pos + 1) = t := by rw [← List.drop_drop, hd]; rfl
  rw [this]
theorem parse_end {s : List UInt8} {pos : Nat} {r : Rd} (h : runR (s.drop pos) pos r = runR s 0 Rd.init) (hd : s.length ≤ pos) : parseS s = r.fin pos := by
  unfold parseS
  rw [← h, List.drop_of_length_le hd, runR]
theorem drop_at (s : ByteArray) (pos : Nat) (h : pos < s.size) : s.data.toList.drop pos = s[pos] :: s.data.toList.drop (pos + 1) := by
  rw [List.drop_eq_getElem_cons (by simpa using h)]
  rfl
theorem step_high (r : Rd) (c : Int) (h : 128 ≤ c) : r.step c = none := by
  unfold Rd.step
  rw [if_neg (by omega), if_neg (by omega)]

/-- the contract of addr.Parse, any text -/
def ParsePost (s : ByteArray) (w : World) (e : Ending) (w' : World) : Prop :=
  e = .returned (.tuple #[.int .u32 (parseS s.data.toList).1, .int .i64 (parseS s.data.toList).2.1, .int .i64 (parseS s.data.toList).2.2]) ∧ Below w.heap.size w w'

theorem PI.start (s : ByteArray) (w : World) : PI w s 0 Rd.init (((((w.alloc (Obj.cells #[Value.int IntKind.u32 0] 23)).alloc (Obj.cells #[Value.int IntKind.i64 0] 3)).alloc (Obj.cells #[Value.int IntKind.i64 0] 26)).alloc
          (Obj.cells #[Value.int IntKind.u8 0, Value.int IntKind.u8 0, Value.int IntKind.u8 0, Value.int IntKind.u8 0, Value.int IntKind.i64 0, Value.int IntKind.i64 0] 112)).iter s 0) := by
  have hb : ∀ (w : World) (s : ByteArray) (n : Nat), Below w.heap.size w (w.iter s n) := fun w s n => (Below.refl _ _).alloc (Nat.le_refl _) _
  refine ⟨?_, ?_, ?_, ?_, ?_, ?_, ?_, ?_, ?_, ?_, ?_, ?_, ?_⟩
  · exact bthen (((((Below.refl _ _).alloc (Nat.le_refl _) _).alloc (by simp) _).alloc (by simp; omega) _).alloc (by simp; omega) _) (hb _ _ _)
  · simp [World.iter]
  · refine Eq.trans (congrArg (fun k => (World.iter _ s 0).heap[k]?) (show w.heap.size + 4 = _ from ?_)) (World.iter_heap _ s 0)
    simp
  · simp [World.iter, go_sem]
  · simp [World.iter, go_sem]
  · simp [World.iter, go_sem]
  · simp [World.iter, go_sem]
  · simp [World.iter, go_sem]
  · simp [World.iter, go_sem]
  · intro i hi
    match i, hi with
    | 0, _ => simp [World.iter, go_sem, Rd.init]
    | 1, _ => simp [World.iter, go_sem, Rd.init]
    | 2, _ => simp [World.iter, go_sem, Rd.init]
    | 3, _ => simp [World.iter, go_sem, Rd.init]
  · simp [World.iter, go_sem, Rd.init]
  · simp [World.iter, go_sem, Rd.init]
  · intro o; simp [World.iter, go_sem]

set_option maxRecDepth 100000 in
set_option maxHeartbeats 2000000 in
theorem Parse_any (s : ByteArray) (w : World) (hs : s.size ≤ 1000000000000000) :
    Calls Tryd.prog 39 #[.string s] w (ParsePost s w) := by
  have hmf : ∀ (fn : Fn) (first cap : Array Value) (w : World), (Instr.makeFunc fn first cap).run Tryd.prog w = .ok (.func fn first cap) w := fun _ _ _ _ => rfl
  have hdec : ∀ (pos : Nat), pos < s.size → ∃ c : Nat, ∃ wd : Nat, Utf8.decode s pos = (c, wd) ∧ ((∃ h : pos < s.size, (s[pos]'h).toNat = c ∧ c < 128 ∧ wd = 1) ∨ (128 ≤ c ∧ ∃ h : pos < s.size, 128 ≤ (s[pos]'h).toNat)) := by
    intro pos hp
    by_cases ha : (s[pos]'hp).toNat < 128
    · exact ⟨_, _, decode_ascii s pos hp ha, Or.inl ⟨hp, rfl, ha, rfl⟩⟩
    · exact ⟨(Utf8.decode s pos).1, (Utf8.decode s pos).2, rfl, Or.inr ⟨(decode_high s pos hp (by omega)).1, hp, by omega⟩⟩
  have Hdec := Lib.hid hdec
  clear hdec
  have Hst := Lib.hid (PI.start s w)
  go_enter_defers Tryd.func39, Tryd.ntmps39
  go_wp2_with fail
  simp only [Nat.add_assoc, Nat.reduceAdd]
  go_loopw [7] (fun _ wr => ∃ (pos : Nat) (r : Rd), PI w s pos r wr ∧ pos ≤ s.size ∧ r.Ok pos ∧ runR (s.data.toList.drop pos) pos r = runR s.data.toList 0 Rd.init) (fun _ wr => s.size - wr.iterPos (w.heap.size + 4))
  case atStart => exact ⟨0, Rd.init, Hst.out, Nat.zero_le _, Rd.init_ok, rfl⟩
  case round =>
    obtain ⟨pos, r, hpi, hpos, hok, hrun⟩ := hrel
    have Hrun := Lib.hid hrun
    clear hrun Hst
    by_cases hp : pos < s.size
    · obtain ⟨c, wd, hde, hcc⟩ := Hdec.out pos hp
      have hnx : ∀ ty, (Instr.next (.pointer (some ⟨w.heap.size + 4, 0, none⟩)) true ty).run Tryd.prog wr = .ok (.tuple #[.bool true, .int .i64 pos, .int .i32 c]) (wr.iterAt (w.heap.size + 4) s (pos + wd)) := fun ty => by
        have := Lib.run_next_any_at (P := Tryd.prog) wr (w.heap.size + 4) s pos ty hpi.it hp
        rw [hde] at this
        exact this
      have hp1 := hpi.next (pos + wd)
      have HD := Lib.hid hde
      have HC := Lib.hid hcc
      have HP := Lib.hid hpi
      clear hde hcc hpi
      generalize wr.iterAt (w.heap.size + 4) s (pos + wd) = W1 at *
      have HP1 := Lib.hid hp1
      clear hp1
      cases hstep : r.step (c : Int) with
      | none =>
        have HS := Lib.hid hstep
        clear hstep
        go_wp2_with fail
        refine (take_none HP1.out hok (by omega) HS.out).mono ?_
        rintro e w2 ⟨rfl, hpr⟩
        refine leaves_cons (f := 66) (args := #[.pointer (some ⟨w.heap.size, 0, none⟩), .pointer (some ⟨w.heap.size + 1, 0, none⟩), .pointer (some ⟨w.heap.size + 2, 0, none⟩)]) (by simp) (by simp [go_sem]) ?_
        refine (catch_hit w.heap.size pos 0 0 0 [] _ hpr.c0 hpr.c1 hpr.c2 hpr.f0 hpr.f1 hpr.f2).mono ?_
        rintro e u' w3 ⟨rfl, rfl, hw3⟩
        obtain ⟨k0, k1, k2, k3⟩ := hpr.caught hw3
        clear hw3
        have hfin : parseS s.data.toList = (0, (pos : Int), 110) := by
          have hb : r.step ((s[pos].toNat : Nat) : Int) = none := by
            rcases HC.out with ⟨_, hc1, _, _⟩ | ⟨_, _, h128⟩
            · rw [hc1]; exact HS.out
            · exact step_high _ _ (by omega)
          exact parse_none Hrun.out (drop_at s pos hp) hb
        simp [Leaves, settle, results, Tryd.results39, go_sem, k0, k1, k2]
        exact ⟨by rw [hfin], k3⟩
      | some r' =>
        have HS := Lib.hid hstep
        clear hstep
        go_wp2_with fail
        refine (take_some HP1.out hok (by omega) HS.out).mono ?_
        rintro e w2 ⟨rfl, hpr⟩
        have HPR := Lib.hid hpr
        clear hpr
        go_wp2_with fail
        go_roundw
        case rel =>
          rcases HC.out with ⟨_, hc1, hc2, hc3⟩ | ⟨h128, _⟩
          · have hs2 := HS.out
            rw [← hc1] at hs2
            have hpr := HPR.out
            rw [hc3] at hpr
            exact ⟨pos + 1, r', hpr, by omega, Rd.step_ok hok hs2, run_some Hrun.out (drop_at s pos hp) hs2⟩
          · rw [step_high _ _ (by omega)] at HS
            cases HS.out
        case measure =>
          rw [iterPos_of HPR.out.it, iterPos_of HP.out.it]
          have : 1 ≤ wd := by
            rcases HC.out with ⟨_, _, _, h⟩ | ⟨h128, _⟩
            · omega
            · rw [step_high _ _ (by omega)] at HS
              cases HS.out
          omega
    · have hnx : ∀ ty, (Instr.next (.pointer (some ⟨w.heap.size + 4, 0, none⟩)) true ty).run Tryd.prog wr = _ := fun ty => Lib.run_next_end_at (P := Tryd.prog) wr (w.heap.size + 4) s pos ty hpi.it hp
      have hfin := parse_end Hrun.out (show s.data.toList.length ≤ pos by simpa using hp)
      have hps : pos = s.size := by omega
      have hpr : PR w wr := hpi.only (Only.refl _ _)
      unfold Rd.fin at hfin
      have hp3 := hok.part
      have hP := Lib.hid hpi
      have r4 := hpi.r4
      have r5 := hpi.r5
      have q0 := hpi.rd 0 (by omega)
      have q1 := hpi.rd 1 (by omega)
      have q2 := hpi.rd 2 (by omega)
      have q3 := hpi.rd 3 (by omega)
      clear hpi
      by_cases h3 : r.part < 3
      · rw [if_neg (by omega), hps] at hfin
        have Hfin := Lib.hid hfin
        clear hfin hps
        go_wp2_with fail
        refine (end_bad1 _ r.part _ r.digits _ h3 r4 r5).mono ?_
        rintro e w2 ⟨rfl, rfl⟩
        refine leaves_cons (f := 66) (args := #[.pointer (some ⟨w.heap.size, 0, none⟩), .pointer (some ⟨w.heap.size + 1, 0, none⟩), .pointer (some ⟨w.heap.size + 2, 0, none⟩)]) (by simp) (by simp [go_sem]) ?_
        refine (catch_hit w.heap.size s.size 0 0 0 [] _ hpr.c0 hpr.c1 hpr.c2 hpr.f0 hpr.f1 hpr.f2).mono ?_
        rintro e u' w3 ⟨rfl, rfl, hw3⟩
        obtain ⟨k0, k1, k2, k3⟩ := hpr.caught hw3
        clear hw3
        simp [Leaves, settle, results, Tryd.results39, go_sem, k0, k1, k2]
        exact ⟨by rw [Hfin.out], k3⟩
      · by_cases hd : r.digits = 0
        · rw [if_neg (fun h => h.2 hd), hps] at hfin
          rw [hd] at r5
          have Hfin := Lib.hid hfin
          clear hfin hps hd
          go_wp2_with fail
          refine (end_bad2 _ r.part _ _ h3 r4 r5).mono ?_
          rintro e w2 ⟨rfl, rfl⟩
          refine leaves_cons (f := 66) (args := #[.pointer (some ⟨w.heap.size, 0, none⟩), .pointer (some ⟨w.heap.size + 1, 0, none⟩), .pointer (some ⟨w.heap.size + 2, 0, none⟩)]) (by simp) (by simp [go_sem]) ?_
          refine (catch_hit w.heap.size s.size 0 0 0 [] _ hpr.c0 hpr.c1 hpr.c2 hpr.f0 hpr.f1 hpr.f2).mono ?_
          rintro e u' w3 ⟨rfl, rfl, hw3⟩
          obtain ⟨k0, k1, k2, k3⟩ := hpr.caught hw3
          clear hw3
          simp [Leaves, settle, results, Tryd.results39, go_sem, k0, k1, k2]
          exact ⟨by rw [Hfin.out], k3⟩
        · have h33 : r.part = 3 := by omega
          rw [if_pos ⟨h33, hd⟩, hps] at hfin
          rw [h33] at r4
          have Hfin := Lib.hid hfin
          have Hd := Lib.hid hd
          clear hfin hps hd h33
          have u0 := hok.p0 0
          have u1 := hok.p0 1
          have u2 := hok.p0 2
          have u3 := hok.p0 3
          have v0 := hok.p1 0
          have v1 := hok.p1 1
          have v2 := hok.p1 2
          have v3 := hok.p1 3
          go_wp2_with fail
          refine (end_ok _ _ r.digits _ Hd.out r4 r5).mono ?_
          rintro e w2 ⟨rfl, rfl⟩
          go_wp2_with fail
          refine (AddrOf _ _ _ _ _ u0 v0 u1 v1 u2 v2 u3 v3).mono ?_
          rintro e w2 ⟨rfl, hb2⟩
          have hpr2 : PR w w2 := hP.out.only (Only.of_below hb2)
          clear hpr
          obtain ⟨z1, z2, z3, z4, z5, z6, z7⟩ := hpr2
          go_wp2_with fail
          obtain ⟨k0, k1, k2, k3⟩ := (PR.mk z1 z2 z3 z4 z5 z6 z7).caught (x := .int .u32 (((r.p 0 * 256 + r.p 1) * 256 + r.p 2) * 256 + r.p 3)) (y := .int .i64 s.size) (z := .int .i64 0) rfl
          generalize ((w2.setCell ⟨w.heap.size, 0, none⟩ (.int .u32 (((r.p 0 * 256 + r.p 1) * 256 + r.p 2) * 256 + r.p 3))).setCell ⟨w.heap.size + 1, 0, none⟩ (.int .i64 s.size)).setCell ⟨w.heap.size + 2, 0, none⟩ (.int .i64 0) = W3 at *
          refine leaves_cons (f := 66) (args := #[.pointer (some ⟨w.heap.size, 0, none⟩), .pointer (some ⟨w.heap.size + 1, 0, none⟩), .pointer (some ⟨w.heap.size + 2, 0, none⟩)]) (by simp) (by simp [go_sem]) ?_
          refine (catch_idle _ _ _ _).mono ?_
          rintro e u' w3 ⟨rfl, rfl, rfl⟩
          refine ⟨.tuple #[.int .u32 (((r.p 0 * 256 + r.p 1) * 256 + r.p 2) * 256 + r.p 3), .int .i64 s.size, .int .i64 0], by simp [results, Tryd.results39, go_sem, k0, k1, k2], ?_, k3⟩
          rw [Hfin.out]
          rfl
end Go.Proofs.YtmmoccceafcfkaaDoor
