/- PrefixHolds returns true at every three prefixes and every address. No condition of ours beyond the row's own. -/
import Derived.Test.YtmmoccceafcfkaaDoorL0
import Derived.Test.YtmmoccceafcfkaaDoorL1
import Derived.Test.YtmmoccceafcfkaaDoorE7
namespace Go.Proofs.YtmmoccceafcfkaaDoor
open Go.ChangeShapes Go.WideShapes Go.ChangeAt Go.RowKit
open Go.ChangeMaps (open_string)

namespace PrefixHoldsLift
theorem door_met (os : Os) (args : Array Value) : laidMet Tryd.prog Rows.prefixHoldsRow.laid ((World.doorLaid Tryd.prog 31 os).forCall (fun _ _ => 0) ⟨#[], args, []⟩).memory :=
  laidMet_of_run' 8 (by kernel_rfl) (by kernel_rfl)
theorem reads (os : Os) {H : Type} (enc : TypeId × Value → H) : ∃ places, DataW.whole enc Tryd.prog ((World.doorLaid Tryd.prog 31 os).forCall (fun _ _ => 0) ⟨#[], #[.agg #[.int .u32 0, .int .i64 0], .agg #[.int .u32 0, .int .i64 0], .agg #[.int .u32 0, .int .i64 0], .int .u32 0], []⟩).memory Tryd.f5.params.toList Rows.prefixHoldsSpec.vars false (#[.agg #[.int .u32 0, .int .i64 0], .agg #[.int .u32 0, .int .i64 0], .agg #[.int .u32 0, .int .i64 0], .int .u32 0] : Array Value).toList 8 = some ([.agg [.lit (.int .u32 0), .lit (.int .i64 0)], .agg [.lit (.int .u32 0), .lit (.int .i64 0)], .agg [.lit (.int .u32 0), .lit (.int .i64 0)], .lit (.int .u32 0)], [], places) :=
  ⟨[], by kernel_rfl⟩

set_option maxRecDepth 100000 in
theorem contract (H : Type) (enc : TypeId × Value → H) (W : World) (base : Nat) (args : Array Value) (ds gs : List (DataW H)) (before : List MemPlace)
    (hval : ∀ (j : Nat) t v, Tryd.f5.params[j]? = some t → args[j]? = some v → Value.okWide Tryd.prog W .any base t v)
    (hW : DataW.Whole enc Tryd.prog Tryd.f5.params.toList Rows.prefixHoldsSpec.vars false W args.toList ds gs before) (hL : laidMetH Tryd.prog Rows.prefixHoldsRow.laid W) :
    Calls Tryd.prog 5 args W fun e W' => ∃ v, e = .returned v ∧ Rows.prefixHoldsSpec.post enc Tryd.prog Tryd.f5 false true false false W args v W' := by
  have hW' := hW
  obtain ⟨p, q, hA0, hV, rfl, hfz, hnd⟩ := hW
  have hA : DataW.TrodAll enc Tryd.prog W 0 (fun _ => true) true Tryd.f5.params.toList args.toList ds p := hA0
  rw [Tryd.params5] at hA hval
  obtain ⟨v0, vs0, d0, ds0, p0, q0, hargs, rfl, rfl, h0, r0⟩ := trodAll_cons hA
  obtain ⟨v1, vs1, d1, ds1, p1, q1, rfl, rfl, rfl, h1, r1⟩ := trodAll_cons r0
  obtain ⟨v2, vs2, d2, ds2, p2, q2, rfl, rfl, rfl, h2, r2⟩ := trodAll_cons r1
  obtain ⟨v3, vs3, d3, ds3, p3, q3, rfl, rfl, rfl, h3, r3⟩ := trodAll_cons r2
  obtain ⟨rfl, rfl, rfl⟩ := trodAll_nil r3
  obtain rfl : args = #[v0, v1, v2, v3] := by cases args; simp_all
  obtain ⟨rfl, rfl⟩ := trodVars_none hV
  have k0 := h0
  have lt0 : ∀ x ∈ p0, x.block < W.heap.size := by obtain ⟨m, hm⟩ := k0; exact DataW.trod_lt m _ _ _ hm
  have k1 := h1
  have lt1 : ∀ x ∈ p1, x.block < W.heap.size := by obtain ⟨m, hm⟩ := k1; exact DataW.trod_lt m _ _ _ hm
  have k2 := h2
  have lt2 : ∀ x ∈ p2, x.block < W.heap.size := by obtain ⟨m, hm⟩ := k2; exact DataW.trod_lt m _ _ _ hm
  have k3 := h3
  have lt3 : ∀ x ∈ p3, x.block < W.heap.size := by obtain ⟨m, hm⟩ := k3; exact DataW.trod_lt m _ _ _ hm
  obtain ⟨c0a, c0n, y0a, y0n, m0, rfl, _, _, ha0, hn0⟩ := Joins.open_agg2 Tryd.underlying25 (by kernel_rfl) (show Tryd.prog.cellsOf 25 = 2 by kernel_rfl) (hval 0 25 v0 rfl rfl) h0
  obtain ⟨x0a, ea0, _, wa0⟩ := DataW.trod_int Tryd.underlying23 ha0
  obtain ⟨x0n, en0, _, wn0⟩ := DataW.trod_int Tryd.underlying3 hn0
  simp at ea0 en0
  subst ea0 en0
  have ba0 := bounds_u32 wa0
  have bn0 := bounds_i64 wn0
  obtain ⟨c1a, c1n, y1a, y1n, m1, rfl, _, _, ha1, hn1⟩ := Joins.open_agg2 Tryd.underlying25 (by kernel_rfl) (show Tryd.prog.cellsOf 25 = 2 by kernel_rfl) (hval 1 25 v1 rfl rfl) h1
  obtain ⟨x1a, ea1, _, wa1⟩ := DataW.trod_int Tryd.underlying23 ha1
  obtain ⟨x1n, en1, _, wn1⟩ := DataW.trod_int Tryd.underlying3 hn1
  simp at ea1 en1
  subst ea1 en1
  have ba1 := bounds_u32 wa1
  have bn1 := bounds_i64 wn1
  obtain ⟨c2a, c2n, y2a, y2n, m2, rfl, _, _, ha2, hn2⟩ := Joins.open_agg2 Tryd.underlying25 (by kernel_rfl) (show Tryd.prog.cellsOf 25 = 2 by kernel_rfl) (hval 2 25 v2 rfl rfl) h2
  obtain ⟨x2a, ea2, _, wa2⟩ := DataW.trod_int Tryd.underlying23 ha2
  obtain ⟨x2n, en2, _, wn2⟩ := DataW.trod_int Tryd.underlying3 hn2
  simp at ea2 en2
  subst ea2 en2
  have ba2 := bounds_u32 wa2
  have bn2 := bounds_i64 wn2
  obtain ⟨x3, rfl, _, _, wx3⟩ := open_int Tryd.underlying23 (hval 3 23 v3 rfl rfl) h3
  have b3 := bounds_u32 wx3
  clear hA0
  have hR : RelsAt W := rels_of hL (by kernel_rfl) (by kernel_rfl)
  refine (PrefixHolds_walk x0a x0n x1a x1n x2a x2n x3 W (by omega) (by omega) (by omega) (by omega) (by omega) (by omega) (by omega) (by omega) hR).mono fun e W' ⟨he, bel⟩ => ?_
  subst he
  exact ⟨_, rfl, _, _, _, [], _, [], hW', trodAll_mk1 (shut_bool Tryd.underlying4 _), (trodAll_cons_mk (Below.trod laidOut (by kernel_rfl) (of_decide_eq_true (by kernel_rfl)) k0 bel lt0) (trodAll_cons_mk (Below.trod laidOut (by kernel_rfl) (of_decide_eq_true (by kernel_rfl)) k1 bel lt1) (trodAll_cons_mk (Below.trod laidOut (by kernel_rfl) (of_decide_eq_true (by kernel_rfl)) k2 bel lt2) (trodAll_cons_mk (Below.trod laidOut (by kernel_rfl) (of_decide_eq_true (by kernel_rfl)) k3 bel lt3) (trodAll_mk0))))), rfl, bel.frame _, fun h => by cases h⟩

set_option maxRecDepth 100000 in
theorem lifted (os : Os) (started : os.Started) (H : Type) (enc : TypeId × Value → H) (F : Stop.Interp) :
    ReturnsInHanded {} Tryd.checked os 5 .any ((OpenSpec.ofChange Rows.prefixHoldsSpec).preRow enc Tryd.prog Tryd.f5 Rows.prefixHoldsRow.domain false Rows.prefixHoldsRow.laid) (((OpenSpec.ofChange Rows.prefixHoldsSpec).at F).post enc Tryd.prog Tryd.f5 false true false false) := by
  obtain ⟨places, hx⟩ := reads os enc
  refine returnsInHanded_of_row (C := Tryd.checked) (s := OpenSpec.ofChange Rows.prefixHoldsSpec) own started (by kernel_rfl) Tryd.func5
    (witness_row_at (enc := enc) (C := Tryd.checked) false (World.doorLaid Tryd.prog 31 os) #[.agg #[.int .u32 0, .int .i64 0], .agg #[.int .u32 0, .int .i64 0], .agg #[.int .u32 0, .int .i64 0], .int .u32 0] rfl (by kernel_rfl) (by kernel_rfl) (by kernel_rfl)
      (OpenSpec.preRow_of_cond 8 hx (by kernel_rfl) (fun k hk => by cases hk) (by kernel_rfl) (door_met os _))) ?_
  intro W base args ds gs before hval hW _ _ _ hL _ _
  exact contract H enc W base args ds gs before hval hW hL

theorem said : Rows.PrefixHoldsSaid :=
  OpenClaim.holds_of_cond 5 Tryd.f5 rfl rfl rfl rfl rfl rfl rfl ⟨rfl, rfl, rfl, rfl, rfl⟩ rfl rfl rfl rfl rfl (by kernel_rfl) Tryd.func5 (by kernel_rfl)
    (of_decide_eq_true (by kernel_rfl)) (by unfold Func.isWrapper; first | (rw [if_pos (by decide +kernel)]; kernel_rfl) | (rw [if_neg (by decide +kernel)]; exact ⟨rfl, rfl⟩))
    (fun os started H enc _ F => by rw [OpenClaim.pre_eq_preRow]; exact lifted os started H enc F)

theorem plain (f : FuncId) (fn : Func) (hf : Tryd.pinned.checked.prog.funcNamed Rows.prefixHoldsRow.func = some f) (hfn : Tryd.pinned.checked.prog.funcs[f]? = some fn) :
    true = Tryd.pinned.checked.prog.looks [] ∧ ∀ (j : Nat) t, fn.params[j]? = some t → Tryd.pinned.checked.prog.wantsStandIn t = false := by
  obtain rfl : f = 5 := Option.some.inj ((show Tryd.prog.funcNamed Rows.prefixHoldsRow.func = some 5 by kernel_rfl).symm.trans hf) |>.symm
  obtain rfl : fn = Tryd.f5 := (Option.some.inj (Tryd.func5.symm.trans hfn)).symm
  refine ⟨by kernel_rfl, fun j t ht => ?_⟩
  rw [Tryd.params5] at ht
  have hm : t = 25 ∨ t = 23 := by have := Array.mem_of_getElem? ht; simp at this; omega
  rcases hm with rfl | rfl
  · exact (show Tryd.prog.wantsStandIn 25 = false by kernel_rfl)
  · exact (show Tryd.prog.wantsStandIn 23 = false by kernel_rfl)
end PrefixHoldsLift

theorem prefixHolds_card : Rows.PrefixHoldsCardSaid :=
  Claim7.holds_tied_plain_at .later [] _ _ _ _ PrefixHoldsLift.said (fun _ h => by cases h) (by kernel_rfl) (fun _ h => by cases h) prefixHolds_row_tie rfl ⟨rfl, rfl⟩ (by kernel_rfl) rfl PrefixHoldsLift.plain (by kernel_rfl)
#print axioms prefixHolds_card
end Go.Proofs.YtmmoccceafcfkaaDoor
