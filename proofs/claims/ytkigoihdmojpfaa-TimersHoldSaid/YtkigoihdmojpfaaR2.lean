/- The function value of All, as an iterator. -/
import Derived.Test.YtkigoihdmojpfaaR1
import Derived.RangeFuncNested
import Derived.RangeFuncBound
import Derived.RangeFuncCalls
import Derived.RangeFuncLeaves
import Derived.Shelf.Abstract
import Derived.Shelf.RegionOpen
import Derived.OwnWalkIn
import Derived.TacticsInMore
import Derived.LoopNIn
import Derived.LoopIn
namespace Go.Proofs.Ytkigoihdmojpfaa
open Go.RowKit Go.Shelf

attribute [local go_sem] Oper.semAt_some

theorem below_grownBy {w w' : World} (h : Below w.heap.size w w') : w.grownBy w' none := ⟨h.os, h.tape, h.output, h.size, fun k hk _ => h.block k hk⟩
theorem wide_d {n : Nat} : Fence.wide.depth.isSome = true → 1 ≤ n := fun h => by simp [Fence.wide] at h

/-- a box of one cell -/
def OneB (W : World) (b : Nat) (v : Value) (t : TypeId) : Prop := W.heap[b]? = some (.cells #[v] t (0, 0))
theorem OneB.lt {W : World} {b : Nat} {v : Value} {t : TypeId} (h : OneB W b v t) : b < W.heap.size := (Array.getElem?_eq_some_iff.1 h).1
theorem OneB.c {W : World} {b : Nat} {v : Value} {t : TypeId} (h : OneB W b v t) : W.cell? ⟨b, 0, none⟩ = some v := by simp [World.cell?, show W.heap[b]? = _ from h]
theorem OneB.f {W : World} {b : Nat} {v : Value} {t : TypeId} (h : OneB W b v t) : W.frozen? ⟨b, 0, none⟩ = false := by simp [World.frozen?, show W.heap[b]? = _ from h]
theorem OneB.new (W : World) (v : Value) (t : TypeId) : OneB (W.alloc (.cells #[v] t)) W.heap.size v t := World.alloc_heap_new W _
theorem OneB.below {W W' : World} {b : Nat} {v : Value} {t : TypeId} (h : OneB W b v t) (hb : Below W.heap.size W W') : OneB W' b v t := (hb.block b h.lt).trans h
theorem OneB.alloc {W : World} {b : Nat} {v : Value} {t : TypeId} (h : OneB W b v t) (o : Obj) : OneB (W.alloc o) b v t := h.below ((Below.refl _ W).alloc (Nat.le_refl _) o)
theorem OneB.other {W : World} {b b' o : Nat} {v u : Value} {t : TypeId} (h : OneB W b v t) (hne : b ≠ b') : OneB (W.setCell ⟨b', o, none⟩ u) b v t := (Below.heap_setCell W _ u b hne).trans h
theorem heap_set1 {W : World} {B : Nat} {v : Value} {t : TypeId} (v' : Value) (h : W.heap[B]? = some (.cells #[v] t (0, 0))) : (W.setCell ⟨B, 0, none⟩ v').heap[B]? = some (.cells #[v'] t (0, 0)) := by
  obtain ⟨hlt, hk⟩ := Array.getElem?_eq_some_iff.1 h
  show (W.heap.modify B _)[B]? = _
  rw [Array.getElem?_eq_getElem (by rw [Array.size_modify]; exact hlt), Array.getElem_modify_self, hk]
  rfl
theorem OneB.set {W : World} {b : Nat} {v : Value} {t : TypeId} (u : Value) (h : OneB W b v t) : OneB (W.setCell ⟨b, 0, none⟩ u) b u t := heap_set1 _ h
theorem OneB.grown {W W' : World} {b k : Nat} {v : Value} {t : TypeId} (h : OneB W b v t) (hg : W.grownBy W' (some k)) (hne : b ≠ k) : OneB W' b v t := (hg.block b h.lt (fun e => hne (Option.some.inj e))).trans h
theorem oneB_own {β : Type} (b : Nat) (t : TypeId) (f : β → Value) : Own (fun s W => OneB W b (f s) t) := fun s X Y row hs hg hrow =>
  (hg.block b (OneB.lt hs) (fun e' => by obtain ⟨o, ho, hc⟩ := hrow b e'.symm; rw [show X.heap[b]? = _ from hs] at ho; cases ho; cases hc)).trans hs
theorem grown_own {β : Type} (W0 : World) (k : Nat) : OwnFrom W0.heap.size (fun (_ : β) W => W0.grownBy W (some k)) := fun _ X Y row hs hg hr =>
  ⟨hg.os.trans hs.os, hg.tape.trans hs.tape, hg.output.trans hs.output, Nat.le_trans hs.size hg.size, fun j hj hne => (hg.block j (Nat.lt_of_lt_of_le hj hs.size) (fun e => by have := (hr j e.symm).1; omega)).trans (hs.block j hj hne)⟩
theorem grown_setR {W0 W : World} {k : Nat} (h : W0.grownBy W (some k)) (v : Value) : W0.grownBy (W.setCell ⟨k, 0, none⟩ v) (some k) :=
  ⟨h.os, h.tape, h.output, by have := h.size; simpa using this, fun j hj hne => (Below.heap_setCell W _ v j (fun e => hne (by rw [e]))).trans (h.block j hj hne)⟩
theorem grown_alloc {W0 W : World} {k : Nat} (h : W0.grownBy W (some k)) (o : Obj) : W0.grownBy (W.alloc o) (some k) :=
  ⟨h.os, h.tape, h.output, by have := h.size; simp; omega, fun j hj hne => (Below.heap_alloc W o j (Nat.lt_of_lt_of_le hj h.size)).trans (h.block j hj hne)⟩
theorem grown_cell {W0 W : World} {k b o : Nat} {v : Value} (h : W0.grownBy W (some k)) (hc : W0.cell? ⟨b, o, none⟩ = some v) (hne : b ≠ k) : W.cell? ⟨b, o, none⟩ = some v :=
  h.cell hc (fun e => hne (Option.some.inj e))
theorem SL.grown {W W' : World} {base : Option Addr} {g o k : Nat} {L : List TR} (h : SL W base g o L) (hg : W.grownBy W' (some k)) (hne : g ≠ k) : SL W' base g o L := h.of_block (hg.block g h.lt (fun e => hne (Option.some.inj e)))
/-- what is handed to a round: a place and the neighbour there -/
def recAt (L : List TR) (k : Fin L.length) : TR := L[k.1]'k.2
def encA (L : List TR) (k : Fin L.length) : Array Value := #[.agg #[.int .i64 (recAt L k).kind, .int .u32 (recAt L k).addr, .int .i64 (recAt L k).len], .int .i64 (recAt L k).due]
def upF (n k : Nat) : List (Fin n) := (List.finRange n).take k
theorem upF_succ {n k : Nat} (h : k < n) : upF n (k + 1) = upF n k ++ [⟨k, h⟩] := by
  unfold upF
  rw [List.take_succ_eq_append_getElem (by simpa using h)]
  simp
theorem upF_len {n k : Nat} (h : k ≤ n) : (upF n k).length = k := by simp [upF, h]
theorem upF_zero (n : Nat) : upF n 0 = [] := by simp [upF]
/-- a round keeps the box and the list -/
def KpA (b g : Nat) (W W' : World) : Prop := W'.heap[b]? = W.heap[b]? ∧ W'.heap[g]? = W.heap[g]?
theorem kpA_t {b g : Nat} {A B C : World} (h : KpA b g A B) (k : KpA b g B C) : KpA b g A C := ⟨k.1.trans h.1, k.2.trans h.2⟩
theorem kpA_b {b g : Nat} {w : World} (hb : b < w.heap.size) (h2 : g < w.heap.size) (W : World) (l : Nat) (o o' : Obj) (hl : w.heap.size ≤ l) (_ : W.heap[l]? = some o) (_ : o.isCells = false) (_ : o.isWalk = false) : KpA b g W (W.putObj l o') := by
  unfold KpA World.putObj
  simp only [Array.getElem?_setIfInBounds]
  rw [if_neg (by omega), if_neg (by omega)]
  exact ⟨rfl, rfl⟩

set_option maxRecDepth 100000 in
set_option maxHeartbeats 2000000 in
theorem All1_in (n l Bs g cap : Nat) (base : Option Addr) (L : List TR) (hL : L.length < 1000000) (J Jx : List (Fin L.length) → World → Prop) (W : World) (hJ : AbidesFrom W.heap.size J)
    (hY : ∀ pre x W1, J pre W1 → pre.length < L.length → YieldAt Fence.wide (n - 1) Try.prog l (encA L x) W1 fun e W' =>
      (e = .returned (.bool true) ∧ J (pre ++ [x]) W' ∧ KpA Bs g W1 W') ∨ (e = .returned (.bool false) ∧ Jx (pre ++ [x]) W'))
    (hB : W.heap[Bs]? = some (.cells #[.slice base L.length cap] 72)) (hS : SL W base g 0 L) (h0 : J [] W) :
    CallsIn Fence.wide n Try.prog 34 #[.func (.yield l) #[] #[], .pointer (some ⟨Bs, 0, none⟩)] W fun e W' => (∃ v, e = .returned v) ∧
      ((∃ xs, xs = upF L.length L.length ∧ J xs W') ∨ (∃ pre, (∃ k, k ≤ L.length ∧ pre = upF L.length k) ∧ Jx pre W')) := by
  refine callsIn_of_wp Try.func34 rfl trivial ?_ rfl
  simp only [Try.ntmps34, List.size_toArray, List.length_cons, List.length_nil, Nat.reduceAdd, Nat.reduceSub, Array.replicate_succ, Array.replicate_zero, List.push_toArray, List.append_toArray, List.nil_append, List.cons_append]
  have hJn : ∀ pre A o, J pre A → J pre (A.alloc o) := fun pre A o h => hJ pre A _ none h (World.grownBy_alloc A o none) (by simp)
  have HJ := Lib.hid hJn
  clear hJn hJ
  have HY := Lib.hid hY
  clear hY
  have e0 : W.cell? ⟨Bs, 0, none⟩ = some (.slice base L.length cap) := by simp [World.cell?, hB]
  refine wpIn_wide.2 ?_
  go_wp2_with fail
  go_step3
  go_wp2_with fail
  refine wp_label ?_
  go_wp2_with fail
  refine (wpIn_wide (n := n)).1 ?_
  gi_loopw [7] (fun i wr => ∃ (k : Nat), k ≤ L.length ∧ i = .int .i64 k ∧ J (upF L.length k) wr ∧ SL wr base g 0 L) (fun i _ => L.length - (intOf i).toNat)
  case atStart => exact ⟨0, by omega, rfl, by rw [upF_zero]; exact h0, hS⟩
  case round =>
    obtain ⟨k, hk, rfl, hJk, hSk⟩ := hrel
    clear h0 hS
    by_cases hkL : k < L.length
    · have t1 : decide ((k : Int) < (L.length : Int)) = true := by simp [hkL]
      have t1' : decide (k < L.length) = true := by simp [hkL]
      have i0 : (0 : Int) ≤ (k : Int) := by omega
      obtain ⟨r, hr⟩ : ∃ r, L[k]? = some r := ⟨_, List.getElem?_eq_getElem hkL⟩
      have hra : recAt L ⟨k, hkL⟩ = r := by
        unfold recAt
        have := List.getElem?_eq_getElem hkL
        rw [hr] at this
        exact (Option.some.inj this).symm
      obtain ⟨rfl, z0, z1, z2, z3⟩ := hSk.row k r hr
      simp only [Nat.zero_add] at z0 z1 z2 z3
      have hgl := hSk.lt
      have HS := Lib.hid hSk
      have HJk := Lib.hid hJk
      clear hSk hJk hr
      obtain ⟨fn, tmps, assign, body, hy, hR⟩ := (HY.out (upF L.length k) ⟨k, hkL⟩ _ (HJ.out _ _ (.cells #[.int .i64 r.kind, .int .u32 r.addr, .int .i64 r.len, .int .i64 r.due] 85) HJk.out) (by rw [upF_len hk]; exact hkL)).mono (R' := fun e W' => ∃ b : Bool, e = .returned (.bool b) ∧ (b = true → J (upF L.length (k + 1)) W' ∧ KpA Bs g (wr.alloc (.cells #[.int .i64 r.kind, .int .u32 r.addr, .int .i64 r.len, .int .i64 r.due] 85)) W') ∧ (b = false → Jx (upF L.length (k + 1)) W')) (by
        rintro e W' (⟨he, h1, h2⟩ | ⟨he, h1⟩)
        · exact ⟨true, he, fun _ => ⟨by rw [upF_succ hkL]; exact h1, h2⟩, by simp⟩
        · exact ⟨false, he, by simp, fun _ => by rw [upF_succ hkL]; exact h1⟩)
      simp only [encA, hra] at hy
      gi_wp2_with fail
      refine ⟨wide_d, hR.mono ?_⟩
      rintro e W3 ⟨b, rfl, hb1, hb2⟩
      clear hR hy
      cases b with
      | false =>
        have hJ3 := hb2 rfl
        clear hb1 hb2
        gi_wp2_with fail
        rw [Exit.noGoto_normal]
        go_end0
        exact ⟨⟨_, rfl⟩, .inr ⟨_, ⟨k + 1, by omega, rfl⟩, hJ3⟩⟩
      | true =>
        obtain ⟨hJ3, hK3⟩ := hb1 rfl
        clear hb1 hb2
        have HJ3 := Lib.hid hJ3
        have HK3 := Lib.hid hK3
        clear hJ3 hK3
        gi_wp2_with fail
        refine ⟨⟨k + 1, by omega, by go_num, HJ3.out, ?_⟩, by simp [intOf]; omega⟩
        exact HS.out.of_block (HK3.out.2.trans (Below.heap_alloc _ _ g hgl))
    · have t1 : decide ((k : Int) < (L.length : Int)) = false := by simp; omega
      have t1' : decide (k < L.length) = false := by simp; omega
      have hkk : k = L.length := by omega
      have HJk := Lib.hid hJk
      clear hJk
      gi_wp2_with fail
      rw [Exit.noGoto_normal]
      go_end0
      exact ⟨⟨_, rfl⟩, .inl ⟨_, by rw [hkk], HJk.out⟩⟩

theorem All_stops (n Bs g cap : Nat) (base : Option Addr) (L : List TR) (hL : L.length < 1000000) (w : World) (hB : w.heap[Bs]? = some (.cells #[.slice base L.length cap] 72)) (hS : SL w base g 0 L) :
    SeqStopsK Fence.wide n Try.prog 34 #[.pointer (some ⟨Bs, 0, none⟩)] (encA L) (KpA Bs g) (fun xs => xs = upF L.length L.length) (fun pre => ∃ k, k ≤ L.length ∧ pre = upF L.length k) L.length w :=
  fun l J Jx W hW hJ _ hY h0 => All1_in n l Bs g cap base L hL J Jx W hJ hY ((hW.block Bs (Array.getElem?_eq_some_iff.1 hB).1).trans hB) (hS.below hW) h0
end Go.Proofs.Ytkigoihdmojpfaa
