/- slices.AppendSeq, Collect over trie.down. -/
import Derived.Test.YtbacahoihkpkpaaDoorT4
import Derived.Maps.AppendAt
import Derived.RangeFuncBox
namespace Go.Proofs.YtbacahoihkpkpaaDoor
open Go.RowKit Go.Shelf Go.Maps

attribute [local go_sem] Oper.semAt_some

def wC (t : TT) (p : Key) (q : Nat) (pre : List (Fin (wayQ t p q).length)) : List Value := pre.map fun x => .pointer (some (wayAt t p q x).1)
theorem wC_snoc (t : TT) (p : Key) (q : Nat) (pre : List (Fin (wayQ t p q).length)) (x : Fin (wayQ t p q).length) : wC t p q (pre ++ [x]) = wC t p q pre ++ [.pointer (some (wayAt t p q x).1)] := by simp [wC]
theorem info77 : (Tryd.prog.info? 77).map (fun i => (i.zero, i.size, i.bytes)) = some (some (.pointer none), 1, 8) := by kernel_rfl
theorem cells_one_new (w : World) (a : Value) (t : TypeId) : ∀ j u, [a][j]? = some u → (w.alloc (.cells #[a] t)).cell? ((⟨w.heap.size, 0, none⟩ : Addr).add j) = some u := by
  intro j u hj
  match j, hj with
  | 0, hj => simp at hj; subst hj; simp [Addr.add, go_sem]
  | j + 1, hj => simp at hj
theorem way_len {t : TT} {p : Key} {a : Addr} : (t.way p a).length ≤ t.dp := by
  induction t generalizing a with
  | nil => simp [TT.way]
  | node b k o l r il ir =>
    simp only [TT.way, TT.dp]
    have h1 := il (a := ⟨b, 4, none⟩)
    have h2 := ir (a := ⟨b, 5, none⟩)
    repeat' split
    all_goals (simp only [List.length_cons, List.length_nil]; omega)

def aI (t : TT) (p : Key) (q : Nat) (w : World) (B : Nat) (pre : List (Fin (wayQ t p q).length)) (W : World) : Prop :=
  (∃ v, Boxed W B 111 v ∧ W.ownsRow w.heap.size 77 1 v pre.length (wC t p q pre) ∧ True) ∧ Below w.heap.size w W
theorem aI_own (t : TT) (p : Key) (q : Nat) (w : World) (B n : Nat) (hn : w.heap.size ≤ n) : OwnFrom n (aI t p q w B) :=
  OwnFrom.and (Own.from (holdsRow_own w.heap.size B 111 77 1 (fun pre => pre.length) (wC t p q) (fun _ _ => True)) _) (ownFrom_below (Nat.le_refl _) hn)

set_option maxRecDepth 1000000 in
set_option maxHeartbeats 4000000 in
theorem AppendSeq_any (Bq Bp q : Nat) (p : Key) (t : TT) (hp : p.length ≤ 32) (hlen : ∀ x ∈ t.keys, x.length ≤ 32) (hdp : t.dp ≤ 1000) (w : World)
    (hBq : w.heap[Bq]? = some (.cells #[.pointer (some ⟨q, 0, none⟩)] 28)) (hBp : w.heap[Bp]? = some (.cells #[.int .u32 (ka p), .int .i64 p.length] 26)) (hT : TAt w ⟨q, 0, none⟩ t) (hq : q < w.heap.size) (hR : RelsAt w) :
    Calls Tryd.prog 80 #[.slice none 0 0, .func (.func 75) #[] #[.pointer (some ⟨Bq, 0, none⟩), .pointer (some ⟨Bp, 0, none⟩)]] w fun e w' => ∃ v : Value, e = .returned v ∧
      w'.ownsRow w.heap.size 77 1 v (wayQ t p q).length (wC t p q (upF (wayQ t p q).length (wayQ t p q).length)) ∧ Below w.heap.size w w' := by
  have B0 : Below w.heap.size w (w.alloc (.cells #[.slice none 0 0] 111)) := (Below.refl _ w).alloc (Nat.le_refl _) _
  have hwl : (wayQ t p q).length ≤ 1000 := Nat.le_trans way_len hdp
  have h0 : 0 < w.heap.size := World.block_lt_of_cell? w _ hR.c0
  have hS : ∀ c ∈ Bp :: 0 :: q :: t.blocks, c < w.heap.size := by
    intro c hc
    simp only [List.mem_cons] at hc
    rcases hc with rfl | rfl | rfl | hc
    · exact (Array.getElem?_eq_some_iff.1 hBp).1
    · exact h0
    · exact hq
    · exact hT.2.lt hc
  have hS' : ∀ c ∈ Bp :: 0 :: q :: t.blocks, c < (w.alloc (.cells #[.slice none 0 0] 111)).heap.size := fun c hc => by have := hS c hc; simp; omega
  have ks := Lib.hid (down_stops (3 - 1) Bq Bp q p t (Bp :: 0 :: q :: t.blocks) hp hlen (w.alloc (.cells #[.slice none 0 0] 111)) ((B0.block Bq (Array.getElem?_eq_some_iff.1 hBq).1).trans hBq) ((B0.block Bp (Array.getElem?_eq_some_iff.1 hBp).1).trans hBp) (hT.below hq rfl B0) (hR.below B0) hS' (by simp) (by simp) (fun c hc => by simp [hc]) (by simp))
  have hx0 : Boxed (w.alloc (.cells #[.slice none 0 0] 111)) w.heap.size 111 (.slice none 0 0) := World.alloc_heap_new w _
  have HX := Lib.hid hx0
  have HB0 := Lib.hid B0
  have HS := Lib.hid hS
  have HS' := Lib.hid hS'
  obtain ⟨i0, hi, hz0, hz1, hz2⟩ := info_parts info77
  clear hT hR hBq hBp B0 hx0 hS hS'
  refine (callsIn_wide (n := 3)).1 ?_
  refine callsIn_of_wp_marks Tryd.func80 rfl trivial ?_ rfl
  simp only [Tryd.ntmps80, List.size_toArray, List.length_cons, List.length_nil, Nat.reduceAdd, Nat.reduceSub, Array.replicate_succ, Array.replicate_zero, List.push_toArray, List.append_toArray, List.nil_append, List.cons_append]
  refine wpIn_wide.2 ?_
  go_wp2_with fail
  refine (wpIn_wide (n := 3)).1 ?_
  refine wpIn_rangeFunc_ownH rfl (by omega) (gf := 75) (lb := #[.pointer (some ⟨Bq, 0, none⟩), .pointer (some ⟨Bp, 0, none⟩)]) rfl trivial (enters_of Tryd.func75 (by kernel_rfl) rfl)
    ks.out kpS_t (kpS_b HS'.out) (Below.refl _ _) (fun _ => rfl)
    (aI t p q w w.heap.size) (fun _ _ _ => False) (aI_own _ _ _ _ _ _ (by simp)) (fun _ _ _ _ _ hs _ _ => hs)
    ⟨⟨_, HX.out, World.ownsRow_nil _ _ _ _, trivial⟩, HB0.out⟩
    (fun x a' _ => a' = { tmps := #[.slice none 0 0, .func (.func 75) #[] #[.pointer (some ⟨Bq, 0, none⟩), .pointer (some ⟨Bp, 0, none⟩)], .pointer (some ⟨w.heap.size, 0, none⟩), undef, .slice none 0 0, .pointer (some (wayAt t p q x).1), .func (.func 75) #[] #[.pointer (some ⟨Bq, 0, none⟩), .pointer (some ⟨Bp, 0, none⟩)], .pointer (some (wayAt t p q x).1), undef, undef, undef, undef, undef], defers := [] })
    (fun _ _ _ _ _ _ hs _ _ => hs) ?assign ?body ?done ?stop
  case assign =>
    rintro l pre x W K hI hK
    unfold encD
    gi_wp2_with fail
    exact hK _ _ ((KeepsOthers.refl _).from _) (fun _ _ => rfl) hI rfl
  case body =>
    rintro l pre x a' W hl' ⟨r, hr⟩ ⟨⟨v, hv, hrow, _⟩, hB⟩ rfl hlt
    have c0 := hv.cell
    have hle : w.heap.size ≤ w.heap.size := Nat.le_refl _
    generalize hy : (wayAt t p q x).1 = y at *
    gi_wp2_with (first
      | (gi_at_builtin; refine wpListIn_append_own _ rfl _ _ 111 rfl w.heap.size 77 i0 (.pointer none) 1 8 Tryd.underlying111 hi hz0 hz1 hz2 rfl (by decide) _ _ _ rfl (hrow.alloc _) ⟨W.heap.size, 0, none⟩ 1 1 [.pointer (some y)] rfl rfl (cells_one_new _ _ _) (by simp [Value.oneCell']) (by unfold maxLen; omega) (by omega) (by have := hB.size; simp; omega) ?_; intro v' w1 hown' hgrow _; obtain ⟨g', cap', rfl⟩ := ownsRow_succ hown'; obtain ⟨hv1, hv2, hr2, hk2, hb2⟩ := hv.appended (by decide) hrow hB.size hle hown' hgrow; have hc1 := hv1.cell; have hf1 := hv1.frozen)
      | fail)
    exact ⟨hk2.from _, fun c hc => hb2.block c (HS.out c hc), ⟨⟨_, hv2, by rw [wC_snoc, List.length_append, hy]; exact hr2, trivial⟩, hB.trans hb2⟩⟩
  case done =>
    rintro D xs W hD rfl ⟨⟨v, hv, hrow, _⟩, hB⟩ hK
    have c0 := hv.cell
    rw [upF_len (Nat.le_refl _)] at hrow
    go_wp2_with fail
    refine ⟨by simp, .inl ⟨_, _, rfl, run_takeDeferred hK, ?_⟩⟩
    exact ⟨_, results_tmp rfl _ _ _, v, rfl, ownsRow_putObj hrow _ hK rfl, hB.trans (belowK_b (w := w) (Nat.le_refl _) W D _ _ (by simp at hD; omega) hK rfl rfl)⟩
  case stop =>
    rintro D c pre W _ _ h _
    exact h.elim

set_option maxHeartbeats 400000 in
theorem Collect_any (Bq Bp q : Nat) (p : Key) (t : TT) (hp : p.length ≤ 32) (hlen : ∀ x ∈ t.keys, x.length ≤ 32) (hdp : t.dp ≤ 1000) (w : World)
    (hBq : w.heap[Bq]? = some (.cells #[.pointer (some ⟨q, 0, none⟩)] 28)) (hBp : w.heap[Bp]? = some (.cells #[.int .u32 (ka p), .int .i64 p.length] 26)) (hT : TAt w ⟨q, 0, none⟩ t) (hq : q < w.heap.size) (hR : RelsAt w) :
    Calls Tryd.prog 63 #[.func (.func 75) #[] #[.pointer (some ⟨Bq, 0, none⟩), .pointer (some ⟨Bp, 0, none⟩)]] w fun e w' => ∃ v : Value, e = .returned v ∧
      w'.ownsRow w.heap.size 77 1 v (wayQ t p q).length (wC t p q (upF (wayQ t p q).length (wayQ t p q).length)) ∧ Below w.heap.size w w' := by
  have hc := Lib.hid (AppendSeq_any Bq Bp q p t hp hlen hdp w hBq hBp hT hq hR)
  clear hlen hBq hBp hT hR
  go_enter Tryd.func63, Tryd.ntmps63
  go_wp2_with (go_at_call 80; refine hc.out.mono ?_; rintro e w' ⟨v, rfl, hrow, hb⟩)
  go_ret
  exact ⟨v, rfl, hrow, hb⟩
end Go.Proofs.YtbacahoihkpkpaaDoor
