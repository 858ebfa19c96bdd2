/- Contracts: prefix.Around, its function value. -/
import Derived.Test.YtmmoccceafcfkaaDoorA5
import Derived.RangeFuncNested
import Derived.RangeFuncBound
import Derived.RangeFuncCalls
import Derived.RangeFuncLeaves
import Derived.Shelf.Abstract
import Derived.Shelf.RegionOpen
import Derived.OwnWalkIn
import Derived.TacticsInMore
import Derived.LoopNIn
import Derived.LoopIn
namespace Go.Proofs.YtmmoccceafcfkaaDoor
open Go.RowKit Go.Shelf

attribute [local go_sem] Oper.semAt_some

theorem below_grownBy {w w' : World} (h : Below w.heap.size w w') : w.grownBy w' none := ⟨h.os, h.tape, h.output, h.size, fun k hk _ => h.block k hk⟩

/-- what is handed to a round -/
def encA (pa : Int) (x : Fin 33) : Array Value := #[.int .i64 x.val, .agg #[.int .u32 (andM pa x.val), .int .i64 x.val]]
def upto (k : Nat) : List (Fin 33) := (List.range k).map (Fin.ofNat 33)
theorem upto_succ (k : Nat) : upto (k + 1) = upto k ++ [Fin.ofNat 33 k] := by simp [upto, List.range_succ]
theorem upto_len (k : Nat) : (upto k).length = k := by simp [upto]
theorem upto_pre {j k : Nat} (h : j ≤ k) : upto j <+: upto k := by
  obtain ⟨d, rfl⟩ := Nat.le.dest h
  unfold upto
  rw [List.range_add, List.map_append]
  exact List.prefix_append _ _
def cntA (pa pn : Int) : Nat := if rightB pa pn = true then (pn + 1).toNat else 0
/-- a round keeps the box of the prefix -/
def KpB (b : Nat) (W W' : World) : Prop := W'.heap[b]? = W.heap[b]?

theorem wide_d {n : Nat} : Fence.wide.depth.isSome = true → 1 ≤ n := fun h => by simp [Fence.wide] at h

set_option maxRecDepth 100000 in
set_option maxHeartbeats 2000000 in
theorem Around1_in (n l Bn : Nat) (pa pn : Int) (J Jx : List (Fin 33) → World → Prop) (W : World) (hJ : AbidesFrom W.heap.size J)
    (hY : ∀ pre x W1, J pre W1 → pre.length < 33 → YieldAt Fence.wide (n - 1) Tryd.prog l (encA pa x) W1 fun e W' =>
      (e = .returned (.bool true) ∧ J (pre ++ [x]) W' ∧ KpB Bn W1 W') ∨ (e = .returned (.bool false) ∧ Jx (pre ++ [x]) W'))
    (hB : W.heap[Bn]? = some (.cells #[.int .u32 pa, .int .i64 pn] 25)) (h0 : J [] W) :
    CallsIn Fence.wide n Tryd.prog 78 #[.func (.yield l) #[] #[], .pointer (some ⟨Bn, 0, none⟩)] W fun e W' => (∃ v, e = .returned v) ∧
      ((∃ xs, xs = upto (cntA pa pn) ∧ J xs W') ∨ (∃ pre, pre <+: upto (cntA pa pn) ∧ Jx pre W')) := by
  have hBl : Bn < W.heap.size := (Array.getElem?_eq_some_iff.1 hB).1
  have c0 : W.cell? ⟨Bn, 0, none⟩ = some (.int .u32 pa) := by simp [World.cell?, hB]
  have c1 : W.cell? ⟨Bn, 1, none⟩ = some (.int .i64 pn) := by simp [World.cell?, hB]
  refine callsIn_of_wp Tryd.func78 rfl trivial ?_ rfl
  simp only [Tryd.ntmps78, List.size_toArray, List.length_cons, List.length_nil, Nat.reduceAdd, Nat.reduceSub, Array.replicate_succ, Array.replicate_zero, List.push_toArray, List.append_toArray, List.nil_append, List.cons_append]
  have hJn : ∀ pre A B, J pre A → Below A.heap.size A B → J pre B := fun pre A B h hb => hJ pre A B none h (below_grownBy hb) (by simp)
  gi_wp2_with fail
  cases hr : rightB pa pn with
  | false =>
    refine ⟨trivial, wide_d, (callsIn_wide.2 (mayBe1 W.heap.size pa pn _ false hr (by simp) (by simp))).mono ?_⟩
    rintro e w1 ⟨rfl, hb⟩
    have hb1 : Below W.heap.size W w1 := bthen ((Below.refl _ W).alloc (Nat.le_refl _) _) hb
    gi_wp2_with fail
    refine bodyPost_ret (results_none rfl _ _ _) rfl ?_
    exact ⟨⟨_, rfl⟩, .inl ⟨[], by simp [cntA, hr, upto], hJn _ _ _ h0 hb1⟩⟩
  | true =>
    have hl := rightB_len hr
    have hcnt : cntA pa pn = (pn + 1).toNat := by simp [cntA, hr]
    refine ⟨trivial, wide_d, (callsIn_wide.2 (mayBe1 W.heap.size pa pn _ true hr (by simp) (by simp))).mono ?_⟩
    rintro e w1 ⟨rfl, hb⟩
    have hb1 : Below W.heap.size W w1 := bthen ((Below.refl _ W).alloc (Nat.le_refl _) _) hb
    have d1 : w1.cell? ⟨Bn, 1, none⟩ = some (.int .i64 pn) := (hb1.cell (p := ⟨Bn, 1, none⟩) hBl).trans c1
    have hB1 : w1.heap[Bn]? = some (.cells #[.int .u32 pa, .int .i64 pn] 25) := (hb1.block Bn hBl).trans hB
    have hJ1 : J [] w1 := hJn _ _ _ h0 hb1
    gi_wp2_with fail
    clear hB h0 c0 c1 d1 hb hb1 hr
    gi_loopw [11] (fun i wr => ∃ k : Nat, k ≤ (pn + 1).toNat ∧ i = .int .i64 k ∧ J (upto k) wr ∧ wr.heap[Bn]? = some (.cells #[.int .u32 pa, .int .i64 pn] 25)) (fun i _ => (pn + 1).toNat - (intOf i).toNat)
    case atStart => exact ⟨0, Nat.zero_le _, rfl, hJ1, hB1⟩
    case round =>
      obtain ⟨k, hk, rfl, hJk, hBk⟩ := hrel
      by_cases hlt : k < (pn + 1).toNat
      · have e0 : wr.cell? ⟨Bn, 0, none⟩ = some (.int .u32 pa) := by simp [World.cell?, hBk]
        have t1 : decide ((k : Int) < pn + 1) = true := by simp; omega
        have hf : (Fin.ofNat 33 k).val = k := by simp [Fin.ofNat]; omega
        obtain ⟨fn, tmps, assign, body, hy, hR⟩ := (hY (upto k) (Fin.ofNat 33 k) wr.drew (hJn _ _ _ hJk (Below.refl _ _).drew) (by rw [upto_len]; omega)).mono (R' := fun e W' => ∃ b : Bool, e = .returned (.bool b) ∧ (b = true → J (upto (k + 1)) W' ∧ KpB Bn wr.drew W') ∧ (b = false → Jx (upto (k + 1)) W')) (by
          rintro e W' (⟨he, h1, h2⟩ | ⟨he, h1⟩)
          · exact ⟨true, he, fun _ => ⟨by rw [upto_succ]; exact h1, h2⟩, by simp⟩
          · exact ⟨false, he, by simp, fun _ => by rw [upto_succ]; exact h1⟩)
        simp only [encA, hf, andM] at hy
        have hm : Tryd.prog.follows .mixedOrders = true := by kernel_rfl
        gi_wp2_with fail
        gi_region_with_o (first
          | (refine ⟨trivial, wide_d, (callsIn_wide.2 (mask_any k _ (by omega) (by omega))).mono ?_⟩; rintro e w' ⟨rfl, rfl⟩)
          | (refine ⟨wide_d, hR.mono ?_⟩; rintro e W3 ⟨b, rfl, hb1, hb2⟩))
        all_goals
          cases b with
          | true =>
            obtain ⟨hJ3, hB3⟩ := hb1 rfl
            clear hb1 hb2 hR hy hY
            gi_wp2
            go_roundw
            case rel => exact ⟨k + 1, by omega, by simp, hJ3, hB3.trans hBk⟩
            case measure => simp [intOf]; omega
          | false =>
            have hJ3 := hb2 rfl
            clear hb1 hb2 hR hy hY
            gi_wp2
            refine bodyPost_ret (results_none rfl _ _ _) rfl ?_
            exact ⟨⟨_, rfl⟩, .inr ⟨_, by rw [hcnt]; exact upto_pre (by omega), hJ3⟩⟩
      · have t1 : decide ((k : Int) < pn + 1) = false := by simp; omega
        gi_wp2
        go_end0
        exact ⟨⟨_, rfl⟩, .inl ⟨_, by rw [hcnt, show (pn + 1).toNat = k by omega], hJk⟩⟩


theorem Around_stops (n Bn : Nat) (pa pn : Int) (w : World) (hB : w.heap[Bn]? = some (.cells #[.int .u32 pa, .int .i64 pn] 25)) :
    SeqStopsK Fence.wide n Tryd.prog 78 #[.pointer (some ⟨Bn, 0, none⟩)] (encA pa) (KpB Bn) (fun xs => xs = upto (cntA pa pn)) (fun pre => pre <+: upto (cntA pa pn)) 33 w :=
  fun l J Jx W hW hJ _ hY h0 => Around1_in n l Bn pa pn J Jx W hJ hY ((hW.block Bn (Array.getElem?_eq_some_iff.1 hB).1).trans hB) h0

theorem kpB_t {b : Nat} {A B C : World} (h : KpB b A B) (k : KpB b B C) : KpB b A C := Eq.trans k h
theorem kpB_b {b : Nat} {w : World} (hb : b < w.heap.size) (W : World) (l : Nat) (o o' : Obj) (hl : w.heap.size ≤ l) (_ : W.heap[l]? = some o) (_ : o.isCells = false) (_ : o.isWalk = false) : KpB b W (W.putObj l o') := by
  unfold KpB World.putObj
  simp only [Array.getElem?_setIfInBounds]
  rw [if_neg (by omega)]

/-- prefix.Around -/
theorem Around_any (pa pn : Int) (w : World) :
    Calls Tryd.prog 55 #[.agg #[.int .u32 pa, .int .i64 pn]] w fun e w' => e = .returned (.func (.func 78) #[] #[.pointer (some ⟨w.heap.size, 0, none⟩)]) ∧ w' = w.alloc (.cells #[.int .u32 pa, .int .i64 pn] 25) := by
  go_enter Tryd.func55, Tryd.ntmps55
  go_wp2
  go_ret
  exact ⟨rfl, rfl⟩

end Go.Proofs.YtmmoccceafcfkaaDoor
