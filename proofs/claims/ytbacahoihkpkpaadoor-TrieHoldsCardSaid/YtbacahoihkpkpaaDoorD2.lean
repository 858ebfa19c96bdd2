/- Merged: D1 D2. -/
import Derived.Test.YtbacahoihkpkpaaDoorA5
import Derived.RangeFuncNested
import Derived.RangeFuncBound
import Derived.RangeFuncCalls
import Derived.RangeFuncLeaves
import Derived.Shelf.Abstract
import Derived.Shelf.RegionOpen
import Derived.OwnWalkIn
import Derived.TacticsInMore
import Derived.LoopNIn
import Derived.LoopIn
/- Contracts: prefix.Around, its function value. -/
namespace Go.Proofs.YtbacahoihkpkpaaDoor
open Go.RowKit Go.Shelf

attribute [local go_sem] Oper.semAt_some

theorem below_grownBy {w w' : World} (h : Below w.heap.size w w') : w.grownBy w' none := ⟨h.os, h.tape, h.output, h.size, fun k hk _ => h.block k hk⟩

/-- what is handed to a round -/
def encA (pa : Int) (x : Fin 33) : Array Value := #[.int .i64 x.val, .agg #[.int .u32 (andM pa x.val), .int .i64 x.val]]
def upto (k : Nat) : List (Fin 33) := (List.range k).map (Fin.ofNat 33)
theorem upto_succ (k : Nat) : upto (k + 1) = upto k ++ [Fin.ofNat 33 k] := by simp [upto, List.range_succ]
theorem upto_len (k : Nat) : (upto k).length = k := by simp [upto]
theorem upto_pre {j k : Nat} (h : j ≤ k) : upto j <+: upto k := by
  obtain ⟨d, rfl⟩ := Nat.le.dest h
  unfold upto
  rw [List.range_add, List.map_append]
  exact List.prefix_append _ _
def cntA (pa pn : Int) : Nat := if rightB pa pn = true then (pn + 1).toNat else 0
/-- a round keeps the box of the prefix -/
def KpB (b : Nat) (W W' : World) : Prop := W'.heap[b]? = W.heap[b]?

theorem wide_d {n : Nat} : Fence.wide.depth.isSome = true → 1 ≤ n := fun h => by simp [Fence.wide] at h

set_option maxRecDepth 100000 in
set_option maxHeartbeats 2000000 in
theorem Around1_in (n l Bn : Nat) (pa pn : Int) (J Jx : List (Fin 33) → World → Prop) (W : World) (hJ : AbidesFrom W.heap.size J)
    (hY : ∀ pre x W1, J pre W1 → pre.length < 33 → YieldAt Fence.wide (n - 1) Tryd.prog l (encA pa x) W1 fun e W' =>
      (e = .returned (.bool true) ∧ J (pre ++ [x]) W' ∧ KpB Bn W1 W') ∨ (e = .returned (.bool false) ∧ Jx (pre ++ [x]) W'))
    (hB : W.heap[Bn]? = some (.cells #[.int .u32 pa, .int .i64 pn] 26)) (h0 : J [] W) :
    CallsIn Fence.wide n Tryd.prog 85 #[.func (.yield l) #[] #[], .pointer (some ⟨Bn, 0, none⟩)] W fun e W' => (∃ v, e = .returned v) ∧
      ((∃ xs, xs = upto (cntA pa pn) ∧ J xs W') ∨ (∃ pre, pre <+: upto (cntA pa pn) ∧ Jx pre W')) := by
  have hBl : Bn < W.heap.size := (Array.getElem?_eq_some_iff.1 hB).1
  have c0 : W.cell? ⟨Bn, 0, none⟩ = some (.int .u32 pa) := by simp [World.cell?, hB]
  have c1 : W.cell? ⟨Bn, 1, none⟩ = some (.int .i64 pn) := by simp [World.cell?, hB]
  refine callsIn_of_wp Tryd.func85 rfl trivial ?_ rfl
  simp only [Tryd.ntmps85, List.size_toArray, List.length_cons, List.length_nil, Nat.reduceAdd, Nat.reduceSub, Array.replicate_succ, Array.replicate_zero, List.push_toArray, List.append_toArray, List.nil_append, List.cons_append]
  have hJn : ∀ pre A B, J pre A → Below A.heap.size A B → J pre B := fun pre A B h hb => hJ pre A B none h (below_grownBy hb) (by simp)
  gi_wp2_with fail
  cases hr : rightB pa pn with
  | false =>
    refine ⟨trivial, wide_d, (callsIn_wide.2 (mayBe1 W.heap.size pa pn _ false hr (by simp) (by simp))).mono ?_⟩
    rintro e w1 ⟨rfl, hb⟩
    have hb1 : Below W.heap.size W w1 := bthen ((Below.refl _ W).alloc (Nat.le_refl _) _) hb
    gi_wp2_with fail
    refine bodyPost_ret (results_none rfl _ _ _) rfl ?_
    exact ⟨⟨_, rfl⟩, .inl ⟨[], by simp [cntA, hr, upto], hJn _ _ _ h0 hb1⟩⟩
  | true =>
    have hl := rightB_len hr
    have hcnt : cntA pa pn = (pn + 1).toNat := by simp [cntA, hr]
    refine ⟨trivial, wide_d, (callsIn_wide.2 (mayBe1 W.heap.size pa pn _ true hr (by simp) (by simp))).mono ?_⟩
    rintro e w1 ⟨rfl, hb⟩
    have hb1 : Below W.heap.size W w1 := bthen ((Below.refl _ W).alloc (Nat.le_refl _) _) hb
    have d1 : w1.cell? ⟨Bn, 1, none⟩ = some (.int .i64 pn) := (hb1.cell (p := ⟨Bn, 1, none⟩) hBl).trans c1
    have hB1 : w1.heap[Bn]? = some (.cells #[.int .u32 pa, .int .i64 pn] 26) := (hb1.block Bn hBl).trans hB
    have hJ1 : J [] w1 := hJn _ _ _ h0 hb1
    gi_wp2_with fail
    clear hB h0 c0 c1 d1 hb hb1 hr
    gi_loopw [11] (fun i wr => ∃ k : Nat, k ≤ (pn + 1).toNat ∧ i = .int .i64 k ∧ J (upto k) wr ∧ wr.heap[Bn]? = some (.cells #[.int .u32 pa, .int .i64 pn] 26)) (fun i _ => (pn + 1).toNat - (intOf i).toNat)
    case atStart => exact ⟨0, Nat.zero_le _, rfl, hJ1, hB1⟩
    case round =>
      obtain ⟨k, hk, rfl, hJk, hBk⟩ := hrel
      by_cases hlt : k < (pn + 1).toNat
      · have e0 : wr.cell? ⟨Bn, 0, none⟩ = some (.int .u32 pa) := by simp [World.cell?, hBk]
        have t1 : decide ((k : Int) < pn + 1) = true := by simp; omega
        have hf : (Fin.ofNat 33 k).val = k := by simp [Fin.ofNat]; omega
        obtain ⟨fn, tmps, assign, body, hy, hR⟩ := (hY (upto k) (Fin.ofNat 33 k) wr.drew (hJn _ _ _ hJk (Below.refl _ _).drew) (by rw [upto_len]; omega)).mono (R' := fun e W' => ∃ b : Bool, e = .returned (.bool b) ∧ (b = true → J (upto (k + 1)) W' ∧ KpB Bn wr.drew W') ∧ (b = false → Jx (upto (k + 1)) W')) (by
          rintro e W' (⟨he, h1, h2⟩ | ⟨he, h1⟩)
          · exact ⟨true, he, fun _ => ⟨by rw [upto_succ]; exact h1, h2⟩, by simp⟩
          · exact ⟨false, he, by simp, fun _ => by rw [upto_succ]; exact h1⟩)
        simp only [encA, hf, andM] at hy
        have hm : Tryd.prog.follows .mixedOrders = true := by kernel_rfl
        gi_wp2_with fail
        gi_region_with_o (first
          | (refine ⟨trivial, wide_d, (callsIn_wide.2 (mask_any k _ (by omega) (by omega))).mono ?_⟩; rintro e w' ⟨rfl, rfl⟩)
          | (refine ⟨wide_d, hR.mono ?_⟩; rintro e W3 ⟨b, rfl, hb1, hb2⟩))
        all_goals
          cases b with
          | true =>
            obtain ⟨hJ3, hB3⟩ := hb1 rfl
            clear hb1 hb2 hR hy hY
            gi_wp2
            go_roundw
            case rel => exact ⟨k + 1, by omega, by simp, hJ3, hB3.trans hBk⟩
            case measure => simp [intOf]; omega
          | false =>
            have hJ3 := hb2 rfl
            clear hb1 hb2 hR hy hY
            gi_wp2
            refine bodyPost_ret (results_none rfl _ _ _) rfl ?_
            exact ⟨⟨_, rfl⟩, .inr ⟨_, by rw [hcnt]; exact upto_pre (by omega), hJ3⟩⟩
      · have t1 : decide ((k : Int) < pn + 1) = false := by simp; omega
        gi_wp2
        go_end0
        exact ⟨⟨_, rfl⟩, .inl ⟨_, by rw [hcnt, show (pn + 1).toNat = k by omega], hJk⟩⟩


theorem Around_stops (n Bn : Nat) (pa pn : Int) (w : World) (hB : w.heap[Bn]? = some (.cells #[.int .u32 pa, .int .i64 pn] 26)) :
    SeqStopsK Fence.wide n Tryd.prog 85 #[.pointer (some ⟨Bn, 0, none⟩)] (encA pa) (KpB Bn) (fun xs => xs = upto (cntA pa pn)) (fun pre => pre <+: upto (cntA pa pn)) 33 w :=
  fun l J Jx W hW hJ _ hY h0 => Around1_in n l Bn pa pn J Jx W hJ hY ((hW.block Bn (Array.getElem?_eq_some_iff.1 hB).1).trans hB) h0

theorem kpB_t {b : Nat} {A B C : World} (h : KpB b A B) (k : KpB b B C) : KpB b A C := Eq.trans k h
theorem kpB_b {b : Nat} {w : World} (hb : b < w.heap.size) (W : World) (l : Nat) (o o' : Obj) (hl : w.heap.size ≤ l) (_ : W.heap[l]? = some o) (_ : o.isCells = false) (_ : o.isWalk = false) : KpB b W (W.putObj l o') := by
  unfold KpB World.putObj
  simp only [Array.getElem?_setIfInBounds]
  rw [if_neg (by omega)]

/-- prefix.Around -/
theorem Around_any (pa pn : Int) (w : World) :
    Calls Tryd.prog 78 #[.agg #[.int .u32 pa, .int .i64 pn]] w fun e w' => e = .returned (.func (.func 85) #[] #[.pointer (some ⟨w.heap.size, 0, none⟩)]) ∧ w' = w.alloc (.cells #[.int .u32 pa, .int .i64 pn] 26) := by
  go_enter Tryd.func78, Tryd.ntmps78
  go_wp2
  go_ret
  exact ⟨rfl, rfl⟩

end Go.Proofs.YtbacahoihkpkpaaDoor
/- Contract: prefix.Common. -/
namespace Go.Proofs.YtbacahoihkpkpaaDoor
open Go.RowKit Go.Shelf

attribute [local go_sem] Oper.semAt_some

/-- a box that holds a prefix -/
def PBox (W : World) (B : Nat) (a n : Int) : Prop := W.heap[B]? = some (.cells #[.int .u32 a, .int .i64 n] 26 (0, 0))
theorem PBox.lt {W : World} {B : Nat} {a n : Int} (h : PBox W B a n) : B < W.heap.size := (Array.getElem?_eq_some_iff.1 h).1
theorem PBox.c0 {W : World} {B : Nat} {a n : Int} (h : PBox W B a n) : W.cell? ⟨B, 0, none⟩ = some (.int .u32 a) := by simp [World.cell?, show W.heap[B]? = _ from h]
theorem PBox.c1 {W : World} {B : Nat} {a n : Int} (h : PBox W B a n) : W.cell? ⟨B, 1, none⟩ = some (.int .i64 n) := by simp [World.cell?, show W.heap[B]? = _ from h]
theorem PBox.f0 {W : World} {B : Nat} {a n : Int} (h : PBox W B a n) : W.frozen? ⟨B, 0, none⟩ = false := by simp [World.frozen?, show W.heap[B]? = _ from h]
theorem PBox.f1 {W : World} {B : Nat} {a n : Int} (h : PBox W B a n) : W.frozen? ⟨B, 1, none⟩ = false := by simp [World.frozen?, show W.heap[B]? = _ from h]
theorem PBox.new (W : World) (a n : Int) : PBox (W.alloc (.cells #[.int .u32 a, .int .i64 n] 26)) W.heap.size a n := World.alloc_heap_new W _
theorem PBox.below {W W' : World} {B : Nat} {a n : Int} (h : PBox W B a n) (hb : Below W.heap.size W W') : PBox W' B a n := (hb.block B h.lt).trans h
theorem PBox.alloc {W : World} {B : Nat} {a n : Int} (h : PBox W B a n) (o : Obj) : PBox (W.alloc o) B a n := h.below ((Below.refl _ W).alloc (Nat.le_refl _) o)
theorem PBox.other {W : World} {B B' o : Nat} {a n : Int} {v : Value} (h : PBox W B a n) (hne : B ≠ B') : PBox (W.setCell ⟨B', o, none⟩ v) B a n := (Below.heap_setCell W _ v B hne).trans h
theorem heap_set1 {W : World} {B o : Nat} {cs : Array Value} {t : TypeId} {fz : Nat × Nat} (v : Value) (h : W.heap[B]? = some (.cells cs t fz)) : (W.setCell ⟨B, o, none⟩ v).heap[B]? = some (.cells (cs.setIfInBounds o v) t fz) := by
  obtain ⟨hlt, hk⟩ := Array.getElem?_eq_some_iff.1 h
  show (W.heap.modify B _)[B]? = _
  rw [Array.getElem?_eq_getElem (by rw [Array.size_modify]; exact hlt), Array.getElem_modify_self, hk]
  rfl
theorem PBox.set {W : World} {B : Nat} {a n : Int} (a' n' : Int) (h : PBox W B a n) : PBox ((W.setCell ⟨B, 0, none⟩ (.int .u32 a')).setCell ⟨B, 1, none⟩ (.int .i64 n')) B a' n' :=
  heap_set1 _ (heap_set1 _ h)
theorem pbox_own {β : Type} (B : Nat) (f g : β → Int) : Own (fun s W => PBox W B (f s) (g s)) := fun s X Y row hs hg hrow =>
  (hg.block B (PBox.lt hs) (fun e' => by obtain ⟨o, ho, hc⟩ := hrow B e'.symm; rw [show X.heap[B]? = _ from hs] at ho; cases ho; cases hc)).trans hs

def lastN (pre : List (Fin 33)) : Nat := (pre.getLast?.map (·.val)).getD 0
theorem lastN_snoc (pre : List (Fin 33)) (x : Fin 33) : lastN (pre ++ [x]) = x.val := by simp [lastN]
theorem lastN_nil : lastN [] = 0 := rfl

set_option maxRecDepth 100000 in
set_option maxHeartbeats 2000000 in
theorem Common_f (pa pn qa qn : Int) (w : World) (rp rq : Bool) (hp : rightB pa pn = rp) (hq : rightB qa qn = rq) (hr : (rp && rq) = false) :
    Calls Tryd.prog 62 #[.agg #[.int .u32 pa, .int .i64 pn], .agg #[.int .u32 qa, .int .i64 qn]] w fun e w' => e = .returned (.tuple #[.agg #[.int .u32 0, .int .i64 0], .int .i64 2]) ∧ Below w.heap.size w w' := by
  have H1 := Lib.hid hp
  have H2 := Lib.hid hq
  have H3 := Lib.hid hr
  clear hp hq hr
  go_enter Tryd.func62, Tryd.ntmps62
  go_wp2_with fail
  refine wp_scope_fwd 0 rfl ?_
  go_wp2_with fail
  refine (mayBe2 (w.heap.size + 1 + 1 + 1 + 1) pa pn qa qn _ rp rq H1.out H2.out ?_ ?_ ?_ ?_).mono ?_
  iterate 4 (· simp [go_sem])
  rw [H3.out]
  rintro e w1 ⟨rfl, hb⟩
  have pr : PBox w1 (w.heap.size + 1 + 1) 0 0 := by
    refine PBox.below ?_ hb
    refine PBox.alloc (PBox.alloc ?_ _) _
    have := PBox.new ((w.alloc (Obj.cells #[Value.int IntKind.u32 pa, Value.int IntKind.i64 pn] 26)).alloc (Obj.cells #[Value.int IntKind.u32 qa, Value.int IntKind.i64 qn] 26)) 0 0
    simpa using this
  have b1 : Below w.heap.size w w1 := bthen (((((Below.refl _ w).alloc (Nat.le_refl _) _).alloc (by simp) _).alloc (by simp; omega) _).alloc (by simp; omega) _ |>.alloc (by simp; omega) _) hb
  have g0 := pr.c0
  have g1 := pr.c1
  have g2 := pr.f0
  have g3 := pr.f1
  go_wp2_with fail
  go_step3
  refine ⟨rfl, ?_⟩
  go_wp2_with fail
  rw [Exit.noGoto_ret]
  have p2 := pr.set 0 0
  have b2 := (b1.setCell (p := ⟨w.heap.size + 1 + 1, 0, none⟩) (by simp; omega) (.int .u32 0)).setCell (p := ⟨w.heap.size + 1 + 1, 1, none⟩) (by simp; omega) (.int .i64 0)
  generalize (w1.setCell ⟨w.heap.size + 1 + 1, 0, none⟩ (.int .u32 0)).setCell ⟨w.heap.size + 1 + 1, 1, none⟩ (.int .i64 0) = W2 at *
  have q0 := p2.c0
  have q1 := p2.c1
  refine bodyPost_ret (v := .tuple #[.agg #[.int .u32 0, .int .i64 0], .int .i64 2]) (by simp [results, Tryd.results62, go_sem, q0, q1]) rfl ⟨rfl, ?_⟩
  exact b2

theorem below_kp {b : Nat} {W W' : World} (hb : b < W.heap.size) (h : Below W.heap.size W W') : KpB b W W' := h.block b hb
theorem below_keeps {W W' : World} (h : Below W.heap.size W W') : KeepsOthers W W' := KeepsOthers.of_grownBy (below_grownBy h) (by simp)

theorem andM_zero (a : Int) (a0 : 0 ≤ a) (a1 : a < 4294967296) : andM a 0 = 0 := by
  rw [andM_nat a 0 (by omega) (by omega) a0 a1]
  have : a.toNat / 2 ^ (32 - (0 : Int)).toNat = 0 := by
    rw [show (32 - (0 : Int)).toNat = 32 by rfl]
    exact Nat.div_eq_of_lt (by omega)
  rw [this]; simp

/-- what the walk of Common knows when m prefixes have come -/
def comOK (pa qa qn : Int) (pre : List (Fin 33)) : Prop := ∀ x ∈ pre, holdsB (andM pa x.val) x.val qa qn = true

theorem upto_snoc_pre {pre : List (Fin 33)} {x : Fin 33} {n : Nat} (h : pre ++ [x] <+: upto n) : pre.length < n ∧ pre = upto pre.length ∧ x = Fin.ofNat 33 pre.length := by
  have hl := h.length_le
  rw [upto_len] at hl
  simp only [List.length_append, List.length_singleton] at hl
  have h2 := List.prefix_of_prefix_length_le h (upto_pre (j := pre.length + 1) (k := n) (by omega)) (by simp [upto_len])
  have h3 := h2.eq_of_length (by simp [upto_len])
  rw [upto_succ] at h3
  have h4 := List.append_inj' h3 rfl
  exact ⟨by omega, h4.1, by simpa using h4.2⟩
theorem upto_mem {j n : Nat} (h : j < n) : Fin.ofNat 33 j ∈ upto n := by
  unfold upto
  exact List.mem_map.2 ⟨j, List.mem_range.2 h, rfl⟩
theorem ofNat33 {j : Nat} (h : j ≤ 32) : (Fin.ofNat 33 j).val = j := by simp [Fin.ofNat]; omega
theorem comOK_upto {pa qa qn : Int} {m j : Nat} (h : comOK pa qa qn (upto m)) (hj : j < m) (hj2 : j ≤ 32) : holdsB (andM pa j) j qa qn = true := by
  have := h _ (upto_mem hj)
  rwa [ofNat33 hj2] at this

/-- between two rounds -/
def comI (pa qa qn : Int) (w : World) (N1 : Nat) (pre : List (Fin 33)) (W : World) : Prop :=
  ((((comOK pa qa qn pre ∧ N1 < W.heap.size) ∧ PBox W (w.heap.size + 1) qa qn) ∧ PBox W (w.heap.size + 1 + 1) 0 0) ∧ PBox W (w.heap.size + 1 + 1 + 1) (andM pa (lastN pre)) (lastN pre)) ∧ Below w.heap.size w W
/-- a round has left -/
def comX (pa qa qn : Int) (w : World) (N1 : Nat) (c : Code) (pre : List (Fin 33)) (W : World) : Prop :=
  ((((c = Code.exit 0 ∧ ∃ (pre' : List (Fin 33)) (x : Fin 33), pre = pre' ++ [x] ∧ comOK pa qa qn pre' ∧ holdsB (andM pa x.val) x.val qa qn = false) ∧ N1 < W.heap.size) ∧ PBox W (w.heap.size + 1 + 1) 0 0) ∧ PBox W (w.heap.size + 1 + 1 + 1) (andM pa (lastN pre.dropLast)) (lastN pre.dropLast)) ∧ Below w.heap.size w W
/-- behind the assignment to the loop's variable -/
def comA (pa pn qa qn : Int) (w : World) (N1 : Nat) (x : Fin 33) (a' : Act) (W : World) : Prop :=
  ∃ Bx, w.heap.size + 1 + 1 + 1 < Bx ∧ PBox W Bx (andM pa x.val) x.val ∧ a' = { tmps := #[Value.agg #[Value.int IntKind.u32 pa, Value.int IntKind.i64 pn], Value.agg #[Value.int IntKind.u32 qa, Value.int IntKind.i64 qn], Value.pointer (some { block := w.heap.size, off := 0 }), Value.pointer (some { block := w.heap.size + 1, off := 0 }), Value.pointer (some { block := w.heap.size + 1 + 1, off := 0 }), Value.int IntKind.i64 0, Value.pointer (some { block := w.heap.size + 1 + 1 + 1, off := 0 }), undef, Value.pointer (some { block := Bx, off := 0 }), Value.agg #[Value.int IntKind.u32 pa, Value.int IntKind.i64 pn], Value.agg #[Value.int IntKind.u32 qa, Value.int IntKind.i64 qn], Value.slice (some { block := w.heap.size + 1 + 1 + 1 + 1, off := 0 }) 2 2, Value.bool true, Value.bool false, Value.agg #[Value.int IntKind.u32 pa, Value.int IntKind.i64 pn], Value.func (Fn.func 85) #[] #[Value.pointer (some { block := N1, off := 0 })], Value.int IntKind.i64 x.val, Value.agg #[Value.int IntKind.u32 (andM pa x.val), Value.int IntKind.i64 x.val], undef, undef, undef, undef, undef, undef, undef], defers := [] }
theorem comI_own (pa qa qn : Int) (w : World) (N1 B : Nat) (hB : w.heap.size ≤ B) : OwnFrom B (comI pa qa qn w N1) :=
  (OwnFrom.and (OwnFrom.and (OwnFrom.and (OwnFrom.and (fun _ _ _ _ hs hg _ => ⟨hs.1, Nat.lt_of_lt_of_le hs.2 hg.size⟩) (Own.from (pbox_own _ _ _) _)) (Own.from (pbox_own _ _ _) _)) (Own.from (pbox_own _ _ _) _)) (ownFrom_below (Nat.le_refl _) hB))
theorem comX_own (pa qa qn : Int) (w : World) (N1 B : Nat) (hB : w.heap.size ≤ B) (c : Code) : OwnFrom B (comX pa qa qn w N1 c) :=
  OwnFrom.and (OwnFrom.and (OwnFrom.and (fun _ _ _ _ hs hg _ => ⟨hs.1, Nat.lt_of_lt_of_le hs.2 hg.size⟩) (Own.from (pbox_own _ _ _) _)) (Own.from (pbox_own _ _ _) _)) (ownFrom_below (Nat.le_refl _) hB)
theorem comA_own (pa pn qa qn : Int) (w : World) (N1 B : Nat) (x : Fin 33) (a' : Act) : OwnFrom B (fun (_ : Unit) W => comA pa pn qa qn w N1 x a' W) :=
  fun _ X Y row hs hg hr => by
    obtain ⟨Bx, h1, h2, h3⟩ := hs
    exact ⟨Bx, h1, pbox_own Bx (fun (_ : Unit) => andM pa x.val) (fun _ => (x.val : Int)) () X Y row h2 hg (fun r e => (hr r e).2), h3⟩

set_option maxRecDepth 100000 in
set_option maxHeartbeats 2000000 in
theorem Common_t (pa pn qa qn : Int) (w : World) (a0 : 0 ≤ pa) (a1 : pa < 4294967296) (e0 : 0 ≤ qa) (e1 : qa < 4294967296) (hp : rightB pa pn = true) (hq : rightB qa qn = true) :
    Calls Tryd.prog 62 #[.agg #[.int .u32 pa, .int .i64 pn], .agg #[.int .u32 qa, .int .i64 qn]] w fun e w' =>
      (∃ k : Nat, (k : Int) ≤ pn ∧ (∀ j : Nat, 0 < j → j ≤ k → holdsB (andM pa j) j qa qn = true) ∧ ((k : Int) = pn ∨ holdsB (andM pa (k + 1 : Nat)) (k + 1 : Nat) qa qn = false) ∧
        e = .returned (.tuple #[.agg #[.int .u32 (andM pa k), .int .i64 k], .int .i64 0])) ∧ Below w.heap.size w w' := by
  have H1 := Lib.hid hp
  have H2 := Lib.hid hq
  have hcnt : cntA pa pn = (pn + 1).toNat := by simp [cntA, hp]
  have hl := rightB_len hp
  clear hp hq
  refine (callsIn_wide (n := 3)).1 ?_
  refine callsIn_of_wp_marks Tryd.func62 rfl trivial ?_ rfl
  simp only [Tryd.ntmps62, List.size_toArray, List.length_cons, List.length_nil, Nat.reduceAdd, Nat.reduceSub, Array.replicate_succ, Array.replicate_zero, List.push_toArray, List.append_toArray, List.nil_append, List.cons_append]
  refine wpIn_wide.2 ?_
  go_wp2_with fail
  go_step3
  go_wp2_with fail
  refine (mayBe2 (w.heap.size + 1 + 1 + 1 + 1) pa pn qa qn _ true true H1.out H2.out ?_ ?_ ?_ ?_).mono ?_
  iterate 4 (· simp [go_sem])
  rintro e w1 ⟨rfl, hb⟩
  have pp : PBox w1 w.heap.size pa pn := ((((PBox.new w pa pn).alloc _).alloc _).alloc _ |>.alloc _).below hb
  have pq : PBox w1 (w.heap.size + 1) qa qn := by
    refine PBox.below ?_ hb
    have := (((PBox.new (w.alloc (Obj.cells #[Value.int IntKind.u32 pa, Value.int IntKind.i64 pn] 26)) qa qn).alloc (Obj.cells #[Value.int IntKind.u32 0, Value.int IntKind.i64 0] 26)).alloc (Obj.cells #[Value.int IntKind.u32 0, Value.int IntKind.i64 0] 26)).alloc (Obj.cells #[Value.int IntKind.u32 pa, Value.int IntKind.i64 pn, Value.int IntKind.u32 qa, Value.int IntKind.i64 qn] 26)
    simpa using this
  have pr : PBox w1 (w.heap.size + 1 + 1) 0 0 := by
    refine PBox.below ?_ hb
    refine PBox.alloc (PBox.alloc ?_ _) _
    have := PBox.new ((w.alloc (Obj.cells #[Value.int IntKind.u32 pa, Value.int IntKind.i64 pn] 26)).alloc (Obj.cells #[Value.int IntKind.u32 qa, Value.int IntKind.i64 qn] 26)) 0 0
    simpa using this
  have pl : PBox w1 (w.heap.size + 1 + 1 + 1) 0 0 := by
    refine PBox.below ?_ hb
    refine PBox.alloc ?_ _
    have := PBox.new (((w.alloc (Obj.cells #[Value.int IntKind.u32 pa, Value.int IntKind.i64 pn] 26)).alloc (Obj.cells #[Value.int IntKind.u32 qa, Value.int IntKind.i64 qn] 26)).alloc (Obj.cells #[Value.int IntKind.u32 0, Value.int IntKind.i64 0] 26)) 0 0
    simpa using this
  have b1 : Below w.heap.size w w1 := bthen (((((Below.refl _ w).alloc (Nat.le_refl _) _).alloc (by simp) _).alloc (by simp; omega) _).alloc (by simp; omega) _ |>.alloc (by simp; omega) _) hb
  clear hb
  have g0 := pp.c0
  have g1 := pp.c1
  go_wp2_with fail
  refine wp_label ?_
  go_wp2_with fail
  refine (Around_any pa pn _).mono ?_
  rintro e w2 ⟨rfl, rfl⟩
  go_wp2_with fail
  refine (wpIn_wide (n := 3)).1 ?_
  have hz := andM_zero pa a0 a1
  have pb : PBox (w1.alloc (Obj.cells #[Value.int IntKind.u32 pa, Value.int IntKind.i64 pn] 26)) w1.heap.size pa pn := PBox.new w1 pa pn
  replace pq := pq.alloc (Obj.cells #[Value.int IntKind.u32 pa, Value.int IntKind.i64 pn] 26)
  replace pr := pr.alloc (Obj.cells #[Value.int IntKind.u32 pa, Value.int IntKind.i64 pn] 26)
  have pll := pl.lt
  replace pl := pl.alloc (Obj.cells #[Value.int IntKind.u32 pa, Value.int IntKind.i64 pn] 26)
  have bsz := b1.size
  replace b1 := b1.alloc b1.size (Obj.cells #[Value.int IntKind.u32 pa, Value.int IntKind.i64 pn] 26)
  clear pp g0 g1
  have hsz : (w1.alloc (Obj.cells #[Value.int IntKind.u32 pa, Value.int IntKind.i64 pn] 26)).heap.size = w1.heap.size + 1 := by simp
  obtain ⟨W0, hW0⟩ : ∃ W0, w1.alloc (Obj.cells #[Value.int IntKind.u32 pa, Value.int IntKind.i64 pn] 26) = W0 := ⟨_, rfl⟩
  rw [hW0] at pb pq pr pl b1 hsz ⊢
  clear hW0
  refine wpIn_rangeFunc_ownH rfl (by omega) (gf := 85) (lb := #[.pointer (some ⟨w1.heap.size, 0, none⟩)]) rfl trivial (enters_of Tryd.func85 (by kernel_rfl) rfl)
    (Around_stops _ w1.heap.size pa pn W0 pb) kpB_t (kpB_b (by omega)) (Below.refl _ _) (fun _ => rfl)
    (comI pa qa qn w w1.heap.size) (comX pa qa qn w w1.heap.size) (comI_own _ _ _ _ _ _ (by omega)) (comX_own _ _ _ _ _ _ (by omega))
    ⟨⟨⟨⟨⟨by simp [comOK], by omega⟩, pq⟩, pr⟩, by rw [lastN_nil]; simpa [hz] using pl⟩, b1⟩
    (comA pa pn qa qn w w1.heap.size) (comA_own _ _ _ _ _ _ _) ?assign ?body ?done ?stop
  case assign =>
    rintro l pre x W K ⟨⟨⟨⟨⟨hc1, hn1⟩, q1⟩, r1⟩, l1⟩, hB1⟩ hK
    unfold encA
    gi_wp2_with fail
    have bw : Below W.heap.size W (W.alloc (Obj.cells #[Value.int IntKind.u32 (andM pa x.val), Value.int IntKind.i64 x.val] 26)) := (Below.refl _ W).alloc (Nat.le_refl _) _
    exact hK _ _ ((below_keeps bw).from _) (below_kp hn1 bw) ⟨⟨⟨⟨⟨hc1, by simp; omega⟩, q1.alloc _⟩, r1.alloc _⟩, l1.alloc _⟩, hB1.alloc hB1.size _⟩ ⟨W.heap.size, l1.lt, PBox.new W _ _, rfl⟩
  case body =>
    rintro l pre x a' W hl' ⟨r, hr⟩ ⟨⟨⟨⟨⟨hc1, hn1⟩, q1⟩, r1⟩, l1⟩, hB1⟩ ⟨Bx, hBx, bX, rfl⟩ hlt
    have x0 := bX.c0
    have x1 := bX.c1
    have y0 := q1.c0
    have y1 := q1.c1
    have hx := x.isLt
    gi_wp2_with fail
    refine ⟨trivial, (CallsIn.inRound l (callsIn_wide.2 (holds_any (andM pa x.val) x.val qa qn W (by omega) (by omega)))).mono ?_⟩
    cases hh : holdsB (andM pa x.val) x.val qa qn with
    | false =>
      rintro e W2 ⟨rfl, hb⟩
      simp only [b2i]
      gi_wp2_with fail
      exact ⟨(below_keeps hb).from _, ⟨⟨⟨⟨rfl, pre, x, rfl, hc1, hh⟩, Nat.lt_of_lt_of_le hn1 hb.size⟩, r1.below hb⟩, by rw [List.dropLast_concat]; exact l1.below hb⟩, bthen hB1 hb⟩
    | true =>
      rintro e W2 ⟨rfl, hb⟩
      have bX2 := bX.below hb
      have x0' := bX2.c0
      have x1' := bX2.c1
      have l2 := l1.below hb
      have c0 := l2.c0
      have c1 := l2.c1
      have f0 := l2.f0
      have f1 := l2.f1
      simp only [b2i]
      gi_wp2_with fail
      refine ⟨((below_keeps hb).trans ((KeepsOthers.setCell _ _ _).trans (KeepsOthers.setCell _ _ _))).from _, ?_, ⟨⟨⟨⟨?_, ?_⟩, ?_⟩, ?_⟩, ?_⟩, ?_⟩
      · exact (Below.heap_setCell _ _ _ _ (by simp; omega)).trans ((Below.heap_setCell _ _ _ _ (by simp; omega)).trans (below_kp hn1 hb))
      · intro y hy
        rcases List.mem_append.1 hy with hy | hy
        · exact hc1 y hy
        · rw [List.mem_singleton.1 hy]; exact hh
      · have := hb.size
        have h3 := ((KeepsOthers.setCell W2 ⟨w.heap.size + 1 + 1 + 1, 0, none⟩ (.int .u32 (andM pa x.val))).trans (KeepsOthers.setCell _ ⟨w.heap.size + 1 + 1 + 1, 1, none⟩ (.int .i64 x.val))).size
        omega
      · exact ((q1.below hb).other (by omega)).other (by omega)
      · exact ((r1.below hb).other (by omega)).other (by omega)
      · rw [lastN_snoc]; exact l2.set _ _
      · exact ((bthen hB1 hb).setCell (p := ⟨w.heap.size + 1 + 1 + 1, 0, none⟩) (by simp; omega) _).setCell (p := ⟨w.heap.size + 1 + 1 + 1, 1, none⟩) (by simp; omega) _
  case done =>
    rintro D zs W hD rfl ⟨⟨⟨⟨⟨hc1, hn1⟩, q1⟩, r1⟩, l1⟩, hB1⟩ hK
    have hlast : (lastN (upto (cntA pa pn)) : Int) = pn := by
      rw [hcnt, show (pn + 1).toNat = pn.toNat + 1 by omega, upto_succ, lastN_snoc]
      simp [Fin.ofNat]; omega
    rw [hlast] at l1
    gi_wp2_with fail
    have z0 := l1.c0
    have z1 := l1.c1
    have f0 := r1.f0
    have f1 := r1.f1
    have g0 := r1.c0
    have g1 := r1.c1
    go_wp2_with fail
    rw [Exit.noGoto_ret]
    have p2 := r1.set (andM pa pn) pn
    have b2 := (hB1.setCell (p := ⟨w.heap.size + 1 + 1, 0, none⟩) (by simp; omega) (.int .u32 (andM pa pn))).setCell (p := ⟨w.heap.size + 1 + 1, 1, none⟩) (by simp; omega) (.int .i64 pn)
    have hK2 := (KeepsOthers.setCell _ ⟨w.heap.size + 1 + 1, 1, none⟩ (.int .i64 pn)).same D _ ((KeepsOthers.setCell W ⟨w.heap.size + 1 + 1, 0, none⟩ (.int .u32 (andM pa pn))).same D _ hK rfl) rfl
    generalize (W.setCell ⟨w.heap.size + 1 + 1, 0, none⟩ (.int .u32 (andM pa pn))).setCell ⟨w.heap.size + 1 + 1, 1, none⟩ (.int .i64 pn) = W2 at *
    have p3 : PBox (W2.putObj D (.deferred none)) (w.heap.size + 1 + 1) (andM pa pn) pn := by
      refine (World.putObj_heap_other ?_).trans p2
      intro e
      rw [← e] at hK2
      rw [show W2.heap[w.heap.size + 1 + 1]? = _ from p2] at hK2
      cases hK2
    have b3 := b2.trans (belowK_b (w := w) (Nat.le_refl _) W2 D _ (.deferred none) (by omega) hK2 rfl rfl)
    refine ⟨by simp, .inl ⟨_, _, rfl, run_takeDeferred hK2, ?_⟩⟩
    generalize W2.putObj D (.deferred none) = W3 at *
    have q0 := p3.c0
    have q1 := p3.c1
    refine ⟨.tuple #[.agg #[.int .u32 (andM pa pn), .int .i64 pn], .int .i64 0], by simp [results, Tryd.results62, go_sem, q0, q1], ⟨pn.toNat, by omega, fun j hj1 hj2 => ?_, .inl (by omega), by rw [show (pn.toNat : Int) = pn by omega]⟩, b3⟩
    exact comOK_upto hc1 (by rw [hcnt]; omega) (by omega)
  case stop =>
    rintro D c pre W hD hS ⟨⟨⟨⟨⟨rfl, pre', x, rfl, hc, hx⟩, hn1⟩, r1⟩, l1⟩, hB1⟩ hK
    rw [List.dropLast_concat] at l1
    obtain ⟨m1, m2, m3⟩ := upto_snoc_pre hS
    rw [hcnt] at m1
    have hxv : x.val = pre'.length := by rw [m3]; exact ofNat33 (by omega)
    have hpos : 0 < pre'.length := by
      by_cases h0 : pre'.length = 0
      · exfalso
        rw [hxv, h0] at hx
        have hz2 := andM_zero qa e0 e1
        have := rightB_len H2.out
        simp [holdsB, hz, hz2] at hx
        omega
      · omega
    have hlN : lastN pre' = pre'.length - 1 := by
      rw [m2, show pre'.length = (pre'.length - 1) + 1 by omega, upto_succ, lastN_snoc, ofNat33 (by omega)]
      simp [upto_len]
    have M2 := Lib.hid m2
    clear m2 m3
    have HX := Lib.hid hx
    clear hx
    have HL := Lib.hid hlN
    have HV := Lib.hid hxv
    clear hlN hxv
    gi_wp2_with fail
    have z0 := l1.c0
    have z1 := l1.c1
    have f0 := r1.f0
    have f1 := r1.f1
    have g0 := r1.c0
    have g1 := r1.c1
    go_wp2_with fail
    rw [Exit.noGoto_ret]
    have p2 := r1.set (andM pa (lastN pre' : Int)) (lastN pre' : Int)
    have b2 := (hB1.setCell (p := ⟨w.heap.size + 1 + 1, 0, none⟩) (by simp; omega) (.int .u32 (andM pa (lastN pre' : Int)))).setCell (p := ⟨w.heap.size + 1 + 1, 1, none⟩) (by simp; omega) (.int .i64 (lastN pre' : Int))
    have hK2 := (KeepsOthers.setCell _ ⟨w.heap.size + 1 + 1, 1, none⟩ (.int .i64 (lastN pre' : Int))).same D _ ((KeepsOthers.setCell W ⟨w.heap.size + 1 + 1, 0, none⟩ (.int .u32 (andM pa (lastN pre' : Int)))).same D _ hK rfl) rfl
    generalize (W.setCell ⟨w.heap.size + 1 + 1, 0, none⟩ (.int .u32 (andM pa (lastN pre' : Int)))).setCell ⟨w.heap.size + 1 + 1, 1, none⟩ (.int .i64 (lastN pre' : Int)) = W2 at *
    have p3 : PBox (W2.putObj D (.deferred none)) (w.heap.size + 1 + 1) (andM pa (lastN pre' : Int)) (lastN pre' : Int) := by
      refine (World.putObj_heap_other ?_).trans p2
      intro e
      rw [← e] at hK2
      rw [show W2.heap[w.heap.size + 1 + 1]? = _ from p2] at hK2
      cases hK2
    have b3 := b2.trans (belowK_b (w := w) (Nat.le_refl _) W2 D _ (.deferred none) (by omega) hK2 rfl rfl)
    refine ⟨by simp, .inl ⟨_, _, rfl, run_takeDeferred hK2, ?_⟩⟩
    generalize W2.putObj D (.deferred none) = W3 at *
    have q0 := p3.c0
    have q1 := p3.c1
    refine ⟨.tuple #[.agg #[.int .u32 (andM pa (lastN pre' : Int)), .int .i64 (lastN pre' : Int)], .int .i64 0], by simp [results, Tryd.results62, go_sem, q0, q1], ⟨lastN pre', ?_, fun j hj1 hj2 => ?_, .inr ?_, rfl⟩, b3⟩
    · have := HL.out; omega
    · have := HL.out
      rw [M2.out] at hc
      exact comOK_upto hc (by omega) (by omega)
    · have hx := HX.out
      rw [HV.out] at hx
      rw [HL.out, show pre'.length - 1 + 1 = pre'.length by omega]
      exact hx

end Go.Proofs.YtbacahoihkpkpaaDoor
