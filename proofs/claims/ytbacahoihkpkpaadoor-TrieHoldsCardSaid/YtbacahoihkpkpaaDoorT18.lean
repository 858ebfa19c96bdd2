/- Contracts: trie.row, above. -/
import Derived.Test.YtbacahoihkpkpaaDoorT17
import Derived.Test.YtbacahoihkpkpaaDoorT11
import Derived.Test.YtbacahoihkpkpaaDoorT9
import Derived.Deep.AppendLies
namespace Go.Proofs.YtbacahoihkpkpaaDoor
open Go.RowKit Go.Shelf Go.Maps

attribute [local go_sem] Oper.semAt_some

set_option maxHeartbeats 400000 in
theorem wp_region_tail {P : Program} {id : Nat} {Q : Exit → Act → World → Prop} {a : Act} {w : World} {l : List Oper} (n : Nat) (hm : P.follows .mixedOrders = true) (hB : Region.lexTailB .any l.toArray n = true)
    (h : wpStill P l.toArray w.drew (fun a' => wpList P l.toArray Q (l.drop n) a' w.drew) (l.take n) a) : (Code.region id l.toArray true).wp P Q a w := wp_region_still_tail n hm hB h

set_option maxRecDepth 100000 in
theorem row_any (b : Nat) (k : Key) (u : Int) (l r : TT) (w : World) (h : (TT.node b k (some u) l r).In w) :
    Calls Tryd.prog 58 #[.pointer (some ⟨b, 0, none⟩)] w fun e w' => e = .returned (.agg #[.int .u32 (ka k), .int .i64 k.length, .int .i64 u]) ∧ Below w.heap.size w w' := by
  have hbl : b < w.heap.size := h.lt (by simp [TT.blocks])
  have n0 := h.c0
  have n1 := h.c1
  have n2 := h.c2
  simp only [Option.getD_some] at n2
  have d0 : b ≠ w.heap.size := by omega
  clear h
  go_enter Tryd.func58, Tryd.ntmps58
  go_wp2_with fail
  refine wp_region_tail 9 (by kernel_rfl) (by kernel_rfl) ?_
  simp only [List.take_succ_cons, List.take_zero, List.drop_succ_cons, List.drop_zero]
  repeat still_step
  refine wpStill_nil ?_
  go_wp2_with fail
  refine bodyPost_ret (v := .agg #[.int .u32 (ka k), .int .i64 k.length, .int .i64 u]) (by simp [results, Tryd.results58, go_sem]) rfl ⟨rfl, ?_⟩
  first
    | exact ((Below.refl _ w).alloc (Nat.le_refl _) _).drew
    | exact (Below.refl _ w).drew.alloc (Nat.le_refl _) _
end Go.Proofs.YtbacahoihkpkpaaDoor
