/- slices.AppendSeq, Collect over maps.Keys at this seat's map. -/
import Derived.Test.YtahkhecfnimdbaaDoorS1
namespace Go.Proofs.YtahkhecfnimdbaaDoor
open Go.RowKit Go.Shelf Go.Maps

attribute [local go_sem] Oper.semAt_some

def kC (x : Int × Int) : List Value := [.int .i64 x.1, .int .u32 x.2]
def kCs (xs : List (Int × Int)) : List Value := xs.flatMap kC
theorem kCs_snoc (xs : List (Int × Int)) (x : Int × Int) : kCs (xs ++ [x]) = kCs xs ++ kC x := by simp [kCs]
theorem info66 : (Tryd.prog.info? 66).map (fun i => (i.zero, i.size, i.bytes)) = some (some (.agg #[.int .i64 0, .int .u32 0]), 2, 16) := by kernel_rfl
theorem keepsW {W W' : World} (h : KeepsOthers W W') : KeepsWalks W W' := ⟨h.size, fun k o hk hw => h.same k o hk (Obj.not_cells_of_walk hw)⟩
/-- a box of a key -/
def KeyB (W : World) (b : Nat) (x : Int × Int) : Prop := W.heap[b]? = some (.cells #[.int .i64 x.1, .int .u32 x.2] 66 (0, 0))
theorem keyB_own {β : Type} (b : Nat) (r : Int × Int) : Own (fun (_ : β) W => KeyB W b r) := fun s X Y row hs hg hrow =>
  (hg.block b (Array.getElem?_eq_some_iff.1 hs).1 (fun e' => by obtain ⟨o, ho, hc⟩ := hrow b e'.symm; rw [show X.heap[b]? = _ from hs] at ho; cases ho; cases hc)).trans hs
theorem cells_two_new (w : World) (a b : Value) (t : TypeId) : ∀ j u, [a, b][j]? = some u → (w.alloc (.cells #[a, b] t)).cell? ((⟨w.heap.size, 0, none⟩ : Addr).add j) = some u := by
  intro j u hj
  match j, hj with
  | 0, hj => simp at hj; subst hj; simp [Addr.add, go_sem]
  | 1, hj => simp at hj; subst hj; simp [Addr.add, go_sem]
  | j + 2, hj => simp at hj

def aI (w : World) (B : Nat) (pre : List (Int × Int)) (W : World) : Prop :=
  (∃ v, Boxed W B 97 v ∧ W.ownsRow w.heap.size 66 2 v pre.length (kCs pre) ∧ True) ∧ Below w.heap.size w W
theorem aI_own (w : World) (B n : Nat) (hn : w.heap.size ≤ n) : OwnFrom n (aI w B) :=
  OwnFrom.and (Own.from (holdsRow_own w.heap.size B 97 66 2 (fun pre => pre.length) kCs (fun _ _ => True)) _) (ownFrom_below (Nat.le_refl _) hn)

set_option maxRecDepth 1000000 in
set_option maxHeartbeats 4000000 in
theorem AppendSeq_any (Bm b nn : Nat) (T : List Rec) (D0 : DataW Unit) (hT : Tab klR recD D0 T) (hwf : ∀ r ∈ T, r.Wf) (hA : Apart T) (hlen : T.length < 1000) (w : World) (hBm : w.cell? ⟨Bm, 0, none⟩ = some (.map (some b))) (hown : w.ownsMap Tryd.prog 66 recR b nn D0) :
    Calls Tryd.prog 66 #[.slice none 0 0, .func (.func 62) #[] #[.pointer (some ⟨Bm, 0, none⟩)]] w fun e w' => ∃ (v : Value) (ss : List (Int × Int)), e = .returned v ∧ ss.Perm (T.map keyP) ∧ w'.ownsRow w.heap.size 66 2 v ss.length (kCs ss) ∧ Below w.heap.size w w' := by
  have B0 : Below w.heap.size w (w.alloc (.cells #[.slice none 0 0] 97)) := below_k _ _
  have hm1 := cell_below B0 hBm
  have ho1 : (w.alloc (.cells #[.slice none 0 0] 97)).ownsMap Tryd.prog 66 recR b nn D0 := hown.alloc _
  have ks := Lib.hid (Keys_stops (3 - 1) Bm b nn T D0 hT hwf hA _ hm1 ho1)
  have hx0 : Boxed (w.alloc (.cells #[.slice none 0 0] 97)) w.heap.size 97 (.slice none 0 0) := World.alloc_heap_new w _
  have HX := Lib.hid hx0
  have HB0 := Lib.hid B0
  obtain ⟨i0, hi, hz0, hz1, hz2⟩ := info_parts info66
  clear hT hwf hA hown hm1 ho1 hBm B0 hx0
  refine (callsIn_wide (n := 3)).1 ?_
  refine callsIn_of_wp_marks Tryd.func66 rfl trivial ?_ rfl
  simp only [Tryd.ntmps66, List.size_toArray, List.length_cons, List.length_nil, Nat.reduceAdd, Nat.reduceSub, Array.replicate_succ, Array.replicate_zero, List.push_toArray, List.append_toArray, List.nil_append, List.cons_append]
  refine wpIn_wide.2 ?_
  go_wp2_with fail
  refine (wpIn_wide (n := 3)).1 ?_
  refine wpIn_rangeFunc_ownH rfl (by omega) (gf := 62) (lb := #[.pointer (some ⟨Bm, 0, none⟩)]) rfl trivial (enters_of Tryd.func62 (by kernel_rfl) rfl)
    ks.out walksK_t walksK_b (Below.refl _ _) (fun _ => rfl)
    (aI w w.heap.size) (fun _ _ _ => False) (aI_own _ _ _ (by simp)) (fun _ _ _ _ _ hs _ _ => hs)
    ⟨⟨_, HX.out, World.ownsRow_nil _ _ _ _, trivial⟩, HB0.out⟩
    (fun x a' W => ∃ Bx, (w.heap.size < Bx ∧ a' = { tmps := #[.slice none 0 0, .func (.func 62) #[] #[.pointer (some ⟨Bm, 0, none⟩)], .pointer (some ⟨w.heap.size, 0, none⟩), undef, .slice none 0 0, .pointer (some ⟨Bx, 0, none⟩), .func (.func 62) #[] #[.pointer (some ⟨Bm, 0, none⟩)], .agg #[.int .i64 x.1, .int .u32 x.2], undef, undef, undef, undef, undef], defers := [] }) ∧ KeyB W Bx x)
    (fun x a' s X Y row hs hg hr => by obtain ⟨Bx, h1, h2⟩ := hs; exact ⟨Bx, h1, Own.from (keyB_own (β := Unit) Bx x) _ s X Y row h2 hg hr⟩) ?assign ?body ?done ?stop
  case assign =>
    rintro l pre x W K ⟨⟨v, hv, hrow, _⟩, hB⟩ hK
    have hl := hv.lt
    gi_wp2_with fail
    exact hK _ _ ((KeepsOthers.alloc _ _).from _) (KeepsWalks.alloc _ _) ⟨⟨v, hv.alloc _, hrow.alloc _, trivial⟩, hB.alloc hB.size _⟩ ⟨W.heap.size, ⟨hl, rfl⟩, World.alloc_heap_new W _⟩
  case body =>
    rintro l pre x a' W hl' ⟨r, hr⟩ ⟨⟨v, hv, hrow, _⟩, hB⟩ ⟨Bx, ⟨hBx, rfl⟩, hKB⟩ hlt
    have c0 := hv.cell
    have q0 : W.cell? ⟨Bx, 0, none⟩ = some (.int .i64 x.1) := by simp [World.cell?, show W.heap[Bx]? = _ from hKB]
    have q1 : W.cell? ⟨Bx, 1, none⟩ = some (.int .u32 x.2) := by simp [World.cell?, show W.heap[Bx]? = _ from hKB]
    have hle : w.heap.size ≤ w.heap.size := Nat.le_refl _
    clear hKB
    gi_wp2_with (first
      | (gi_at_builtin; refine wpListIn_append_own _ rfl _ _ 97 rfl w.heap.size 66 i0 (.agg #[.int .i64 0, .int .u32 0]) 2 16 Tryd.underlying97 hi hz0 hz1 hz2 rfl (by decide) _ _ _ rfl (hrow.alloc _) ⟨W.heap.size, 0, none⟩ 1 1 (kC x) rfl rfl (cells_two_new _ _ _ _) (by simp [kC, Value.oneCell']) (by unfold maxLen; omega) (by omega) (by have := hB.size; simp; omega) ?_; intro v' w1 hown' hgrow _; obtain ⟨g', cap', rfl⟩ := ownsRow_succ hown'; obtain ⟨hv1, hv2, hr2, hk2, hb2⟩ := hv.appended (by decide) hrow hB.size hle hown' hgrow; have hc1 := hv1.cell; have hf1 := hv1.frozen)
      | fail)
    exact ⟨hk2.from _, keepsW hk2, ⟨⟨_, hv2, by rw [kCs_snoc, List.length_append]; exact hr2, trivial⟩, hB.trans hb2⟩⟩
  case done =>
    rintro D xs W hD hS ⟨⟨v, hv, hrow, _⟩, hB⟩ hK
    have c0 := hv.cell
    go_wp2_with fail
    refine ⟨by simp, .inl ⟨_, _, rfl, run_takeDeferred hK, ?_⟩⟩
    exact ⟨_, results_tmp rfl _ _ _, v, xs, rfl, hS, ownsRow_putObj hrow _ hK rfl, hB.trans (belowK_b (w := w) (Nat.le_refl _) W D _ _ (by simp at hD; omega) hK rfl rfl)⟩
  case stop =>
    rintro D c pre W _ _ h _
    exact h.elim

set_option maxHeartbeats 400000 in
theorem Collect_any (Bm b nn : Nat) (T : List Rec) (D0 : DataW Unit) (hT : Tab klR recD D0 T) (hwf : ∀ r ∈ T, r.Wf) (hA : Apart T) (hlen : T.length < 1000) (w : World) (hBm : w.cell? ⟨Bm, 0, none⟩ = some (.map (some b))) (hown : w.ownsMap Tryd.prog 66 recR b nn D0) :
    Calls Tryd.prog 60 #[.func (.func 62) #[] #[.pointer (some ⟨Bm, 0, none⟩)]] w fun e w' => ∃ (v : Value) (ss : List (Int × Int)), e = .returned v ∧ ss.Perm (T.map keyP) ∧ w'.ownsRow w.heap.size 66 2 v ss.length (kCs ss) ∧ Below w.heap.size w w' := by
  have hc := Lib.hid (AppendSeq_any Bm b nn T D0 hT hwf hA hlen w hBm hown)
  clear hT hwf hA hown hBm
  go_enter Tryd.func60, Tryd.ntmps60
  go_wp2_with (go_at_call 66; refine hc.out.mono ?_; rintro e w' ⟨v, ss, rfl, hS, hrow, hb⟩)
  go_ret
  exact ⟨v, ss, rfl, hS, hrow, hb⟩
set_option maxHeartbeats 400000 in
theorem Keys_any (m : Nat) (w : World) : Calls Tryd.prog 48 #[.map (some m)] w fun e w' => e = .returned (.func (.func 62) #[] #[.pointer (some ⟨w.heap.size, 0, none⟩)]) ∧ w' = w.alloc (.cells #[.map (some m)] 62) := by
  go_enter Tryd.func48, Tryd.ntmps48
  go_wp2
  go_ret
  exact ⟨rfl, rfl⟩
end Go.Proofs.YtahkhecfnimdbaaDoor
