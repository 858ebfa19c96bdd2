/- Contract: trie.rows. -/
import Derived.Test.YtbacahoihkpkpaaDoorT22
namespace Go.Proofs.YtbacahoihkpkpaaDoor
open Go.RowKit Go.Shelf Go.Maps

section
open Go.Proofs
theorem store_func {P : Program} {w : World} {a : Addr} {m : Mode} (fn : Fn) (first captured : Array Value) : (store a (.func fn first captured) m).run P w = stored P w a (.func fn first captured) m := run_store P w a _ m rfl
end
attribute [local go_sem] store_func

set_option maxRecDepth 100000 in
set_option maxHeartbeats 2000000 in
theorem rows_any (q : Nat) (t : TT) (w : World) (h : TrS w q t) (hl : t.rows.length ≤ 1000000000) :
    Calls Tryd.prog 45 #[.pointer (some ⟨q, 0, none⟩)] w fun e w' => ∃ v, e = .returned v ∧ w'.ownsRow w.heap.size 74 3 v t.rows.length (rCs t.rows) ∧ Below w.heap.size w w' := by
  have c0 := h.c0
  have hq := h.lt
  have d0 : q ≠ w.heap.size := by omega
  have d1 : q ≠ w.heap.size + 1 := by omega
  have hin := h.at.2
  have HW := Lib.hid (fun W L => rows1_any w t W L hin)
  clear h
  go_enter Tryd.func45, Tryd.ntmps45
  go_upto_region 4 with fail
  generalize hX : ((w.alloc (Obj.cells #[Value.slice none 0 0] 71)).alloc (Obj.cells #[Value.func (Fn.func 66) #[] #[.pointer (some ⟨w.heap.size, 0, none⟩), .pointer (some ⟨w.heap.size + 1, 0, none⟩)]] 117)) = X
  have hS : WS w X [] := by
    subst hX
    refine ⟨((Below.refl _ _).alloc (Nat.le_refl _) _).alloc (by simp) _, ?_, .slice none 0 0, ?_, World.ownsRow_nil _ _ _ _⟩
    · simp only [heapA, World.size_alloc]
      rw [if_pos trivial]
      rfl
    · unfold Boxed
      simp only [heapA, World.size_alloc]
      rw [if_neg (by omega), if_pos trivial]
  clear hX
  have x0 := hS.wc
  have y0 := (hS.below.cell (p := ⟨q, 0, none⟩) hq).trans c0
  have HS := Lib.hid hS
  clear hS c0
  refine wp_region_tail 5 (by kernel_rfl) (by kernel_rfl) ?_
  simp only [List.take_succ_cons, List.take_zero, List.drop_succ_cons, List.drop_zero]
  repeat still_step
  refine wpStill_nil ?_
  have HL := Lib.hid (HW.out X.drew [] (HS.out.step (Below.refl _ X).drew) (by simpa using hl))
  go_upto_region 5 with (go_at_call 66; with_reducible refine HL.out.mono ?_; rintro e w2 ⟨⟨v2, rfl⟩, hS2⟩)
  rw [List.nil_append] at hS2
  obtain ⟨v, hv, hrow⟩ := hS2.row
  have z0 := hv.cell
  have HS2 := Lib.hid hS2
  clear hS2 hv x0 y0
  go_wp2_with fail
  go_ret
  exact ⟨v, rfl, hrow, HS2.out.below⟩
end Go.Proofs.YtbacahoihkpkpaaDoor
