/- Contract: Get. -/
import Derived.Test.YtahkhecfnimdbaaDoorK5
import Derived.Laws.ResultCell
namespace Go.Proofs.YtahkhecfnimdbaaDoor
open Go.RowKit

theorem getR_not {T : List Rec} {f a : Int} (h : hasR T f a = false) : getR T f a = zeroR := by
  unfold getR
  unfold hasR at h
  cases hf : T.find? (atR f a) with
  | none => rfl
  | some r =>
    rw [List.any_eq_false] at h
    exact absurd (List.find?_some hf) (h r (List.mem_of_find?_eq_some hf))

set_option maxHeartbeats 4000000 in
theorem neigh_any (f a l g b : Int) (w : World) :
    Calls Tryd.prog 33 #[.agg #[.int .i64 f, .int .u32 a, .int .i64 l, .int .i64 g, .int .i64 b]] w fun e w' => e = .returned (.agg #[.int .i64 f, .int .u32 a, .int .i64 l, .int .i64 g, .int .i64 b]) ∧ w' = (w.alloc (.cells #[.int .i64 f, .int .u32 a, .int .i64 l, .int .i64 g, .int .i64 b] 71)).alloc (.cells #[.int .i64 f, .int .u32 a, .int .i64 l, .int .i64 g, .int .i64 b] 40) := by
  go_enter Tryd.func33, Tryd.ntmps33
  go_wp2_with fail
  exact bodyPost_ret (v := .agg #[.int .i64 f, .int .u32 a, .int .i64 l, .int .i64 g, .int .i64 b]) (by simp [results, Tryd.results33, go_sem]) rfl ⟨rfl, rfl⟩

abbrev nObj : Obj := Obj.cells #[Value.int IntKind.i64 0, Value.int IntKind.u32 0, Value.int IntKind.i64 0, Value.int IntKind.i64 0, Value.int IntKind.i64 0] 40
set_option maxRecDepth 100000 in
set_option maxHeartbeats 4000000 in
theorem Get_any (p m : Nat) (T : List Rec) (now lost f a : Int) (w : World) (h : NS w p m T now lost) (hk : KB f a) :
    Calls Tryd.prog 14 #[.pointer (some ⟨p, 0, none⟩), .int .i64 f, .int .u32 a] w fun e w' => e = .returned (.tuple #[recV (getR T f a), .bool (hasR T f a)]) ∧ Below w.heap.size w w' := by
  have c0 := h.c0
  have hplt := h.plt
  have H := Lib.hid h
  have hlk := (h.below (below_k w nObj)).look f a hk
  clear h
  generalize hg : getR T f a = g at *
  have Hg := Lib.hid hg
  clear hg
  simp only [recV, keyV] at hlk
  cases hh : hasR T f a with
  | false =>
    rw [hh] at hlk
    go_enter Tryd.func14, Tryd.ntmps14
    go_wp2_with (go_at_call 26; refine (none_t _ _ _ _ _ _ (H.out.below (below_k w nObj))).mono ?_; rintro e w' ⟨rfl, rfl⟩)
    have hz : g = zeroR := by rw [← Hg.out]; exact getR_not hh
    subst hz
    exact bodyPost_ret (v := .tuple #[recV zeroR, .bool false]) (by simp [results, Tryd.results14, go_sem, recV, zeroR]) rfl ⟨rfl, ((Below.refl _ w).alloc (Nat.le_refl _) _).alloc (by simp) _⟩
  | true =>
    rw [hh] at hlk
    go_enter Tryd.func14, Tryd.ntmps14
    go_wp2_with (first | (go_at_call 26; refine (none_t _ _ _ _ _ _ (H.out.below (below_k w nObj))).mono ?_; rintro e w' ⟨rfl, rfl⟩) | (go_at_call 33; refine (neigh_any _ _ _ _ _ _).mono ?_; rintro e w1 ⟨rfl, rfl⟩))
    exact bodyPost_ret (v := .tuple #[recV g, .bool true]) (by simp [results, Tryd.results14, go_sem, recV]) rfl ⟨rfl, ((((Below.refl _ w).alloc (Nat.le_refl _) _).alloc (by simp) _).alloc (by simp; omega) _).alloc (by simp; omega) _⟩
end Go.Proofs.YtahkhecfnimdbaaDoor
