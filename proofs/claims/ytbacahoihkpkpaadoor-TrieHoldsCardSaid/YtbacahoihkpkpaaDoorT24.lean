/- Merged: T18 T19 T20 T21 T22 T23 T24. -/
import Derived.Test.YtbacahoihkpkpaaDoorT17
import Derived.Test.YtbacahoihkpkpaaDoorT11
import Derived.Test.YtbacahoihkpkpaaDoorT9
import Derived.Deep.AppendLies
/- Contracts: trie.row, above. -/
namespace Go.Proofs.YtbacahoihkpkpaaDoor
open Go.RowKit Go.Shelf Go.Maps

attribute [local go_sem] Oper.semAt_some

set_option maxHeartbeats 400000 in
theorem wp_region_tail {P : Program} {id : Nat} {Q : Exit → Act → World → Prop} {a : Act} {w : World} {l : List Oper} (n : Nat) (hm : P.follows .mixedOrders = true) (hB : Region.lexTailB .any l.toArray n = true)
    (h : wpStill P l.toArray w.drew (fun a' => wpList P l.toArray Q (l.drop n) a' w.drew) (l.take n) a) : (Code.region id l.toArray true).wp P Q a w := wp_region_still_tail n hm hB h

set_option maxRecDepth 100000 in
theorem row_any (b : Nat) (k : Key) (u : Int) (l r : TT) (w : World) (h : (TT.node b k (some u) l r).In w) :
    Calls Tryd.prog 58 #[.pointer (some ⟨b, 0, none⟩)] w fun e w' => e = .returned (.agg #[.int .u32 (ka k), .int .i64 k.length, .int .i64 u]) ∧ Below w.heap.size w w' := by
  have hbl : b < w.heap.size := h.lt (by simp [TT.blocks])
  have n0 := h.c0
  have n1 := h.c1
  have n2 := h.c2
  simp only [Option.getD_some] at n2
  have d0 : b ≠ w.heap.size := by omega
  clear h
  go_enter Tryd.func58, Tryd.ntmps58
  go_wp2_with fail
  refine wp_region_tail 9 (by kernel_rfl) (by kernel_rfl) ?_
  simp only [List.take_succ_cons, List.take_zero, List.drop_succ_cons, List.drop_zero]
  repeat still_step
  refine wpStill_nil ?_
  go_wp2_with fail
  refine bodyPost_ret (v := .agg #[.int .u32 (ka k), .int .i64 k.length, .int .i64 u]) (by simp [results, Tryd.results58, go_sem]) rfl ⟨rfl, ?_⟩
  first
    | exact ((Below.refl _ w).alloc (Nat.le_refl _) _).drew
    | exact (Below.refl _ w).drew.alloc (Nat.le_refl _) _
end Go.Proofs.YtbacahoihkpkpaaDoor
/- Contract: trie.above. -/
namespace Go.Proofs.YtbacahoihkpkpaaDoor
open Go.RowKit Go.Shelf Go.Maps

attribute [local go_sem] Oper.semAt_some

/-- the cells of rows -/
def rC (x : Key × Int) : List Value := [.int .u32 (ka x.1), .int .i64 x.1.length, .int .i64 x.2]
def rCs (L : List (Key × Int)) : List Value := L.flatMap rC
theorem rCs_app (L M : List (Key × Int)) : rCs (L ++ M) = rCs L ++ rCs M := by simp [rCs]
def nodeR : TT → List (Key × Int)
  | .nil => []
  | .node _ k o _ _ => TT.rowO k o
def abv (t : TT) (p : Key) (q : Nat) (pre : List (Fin (wayQ t p q).length)) : List (Key × Int) := pre.flatMap fun x => nodeR (wayAt t p q x).2
theorem abv_snoc (t : TT) (p : Key) (q : Nat) (pre : List (Fin (wayQ t p q).length)) (x : Fin (wayQ t p q).length) : abv t p q (pre ++ [x]) = abv t p q pre ++ nodeR (wayAt t p q x).2 := by simp [abv]
theorem way_above (t : TT) (p : Key) (a : Addr) : (t.way p a).flatMap (fun y => nodeR y.2) = t.above p := by
  induction t generalizing a with
  | nil => rfl
  | node b k o l r il ir =>
    simp only [TT.way, TT.above]
    split
    · rw [List.flatMap_cons]
      congr 1
      repeat' split
      · rfl
      · exact ir _
      · exact il _
    · rfl
theorem abv_all (t : TT) (p : Key) (q : Nat) : abv t p q (upF (wayQ t p q).length (wayQ t p q).length) = t.above p := by
  rw [← way_above t p ⟨q, 0, none⟩]
  have hm : (upF (wayQ t p q).length (wayQ t p q).length).map (wayAt t p q) = wayQ t p q := by
    unfold upF
    rw [List.take_of_length_le (by simp)]
    refine List.ext_getElem (by simp) fun i h1 h2 => ?_
    simp [wayAt]
  unfold abv
  rw [show t.way p ⟨q, 0, none⟩ = (upF (wayQ t p q).length (wayQ t p q).length).map (wayAt t p q) from hm.symm, List.flatMap_map]
theorem abv_len {t : TT} {p : Key} {q : Nat} (pre : List (Fin (wayQ t p q).length)) : (abv t p q pre).length ≤ pre.length := by
  induction pre with
  | nil => simp [abv]
  | cons x pre ih =>
    have : abv t p q (x :: pre) = nodeR (wayAt t p q x).2 ++ abv t p q pre := by simp [abv]
    rw [this, List.length_append, List.length_cons]
    have h : (nodeR (wayAt t p q x).2).length ≤ 1 := by
      cases (wayAt t p q x).2 with
      | nil => simp [nodeR]
      | node b k o l r => cases o <;> simp [nodeR, TT.rowO]
    omega
theorem info74 : (Tryd.prog.info? 74).map (fun i => (i.zero, i.size, i.bytes)) = some (some (.agg #[.int .u32 0, .int .i64 0, .int .i64 0]), 3, 24) := by kernel_rfl
theorem cells_three_new (w : World) (a b c : Value) (t : TypeId) : ∀ j u, [a, b, c][j]? = some u → (w.alloc (.cells #[a, b, c] t)).cell? ((⟨w.heap.size, 0, none⟩ : Addr).add j) = some u := by
  intro j u hj
  match j, hj with
  | 0, hj => simp at hj; subst hj; simp [Addr.add, go_sem]
  | 1, hj => simp at hj; subst hj; simp [Addr.add, go_sem]
  | 2, hj => simp at hj; subst hj; simp [Addr.add, go_sem]
  | j + 3, hj => simp at hj

def vI (t : TT) (p : Key) (q : Nat) (w : World) (B : Nat) (pre : List (Fin (wayQ t p q).length)) (W : World) : Prop :=
  ((∃ v, Boxed W B 71 v ∧ W.ownsRow w.heap.size 74 3 v (abv t p q pre).length (rCs (abv t p q pre)) ∧ True) ∧ PBox W (w.heap.size + 1 + 1 + 1) (ka p) p.length) ∧ Below w.heap.size w W
theorem vI_own (t : TT) (p : Key) (q : Nat) (w : World) (B n : Nat) (hn : w.heap.size ≤ n) : OwnFrom n (vI t p q w B) :=
  OwnFrom.and (OwnFrom.and (Own.from (holdsRow_own w.heap.size B 71 74 3 (fun pre => (abv t p q pre).length) (fun pre => rCs (abv t p q pre)) (fun _ _ => True)) _) (Own.from (pbox_own _ (fun _ => ka p) (fun _ => (p.length : Int))) _)) (ownFrom_below (Nat.le_refl _) hn)

theorem own_ge {W : World} {B n size g : Nat} {e : TypeId} {v : Value} {xs : List Value} (h : W.ownsRow B e size v n xs) (hg : v.ownBlock = some g) : B ≤ g ∧ ∃ cur, W.heap[g]? = some (.cells cur e (0, 0)) := by
  rcases h.2 with ⟨rfl, _⟩ | ⟨g', cap, cur, rfl, hb, hc, _⟩
  · simp [Value.ownBlock] at hg
  · simp [Value.ownBlock] at hg
    subst hg
    exact ⟨hb, cur, hc⟩
/-- what an append to the row keeps -/
theorem kept_app {w W1 w2 w3 : World} {S : List Nat} {v v' : Value} {n Wz : Nat} {xs : List Value} {o : Obj} {pa pn : Int} (_hS : ∀ c ∈ S, c < Wz) (hSo : ∀ c ∈ S, c = w.heap.size + 1 + 1 + 1 ∨ c < w.heap.size) (hb : Below W1.heap.size W1 w2) (hr : w2.ownsRow w.heap.size 74 3 v n xs)
    (hg : (w2.alloc o).grownBy w3 v.ownBlock) (hl : w.heap.size + 1 < W1.heap.size) (hp : PBox W1 (w.heap.size + 1 + 1 + 1) pa pn) : KpS S W1 (w3.setCell ⟨w.heap.size + 1, 0, none⟩ v') := by
  intro c hc
  have hcl : c < W1.heap.size := by rcases hSo c hc with rfl | h; exact hp.lt; omega
  have hc2 : c < w2.heap.size := Nat.lt_of_lt_of_le hcl hb.size
  have hne : c ≠ w.heap.size + 1 := by rcases hSo c hc with rfl | h <;> omega
  have hrow : some c ≠ v.ownBlock := by
    intro e
    obtain ⟨h1, cur, h2⟩ := own_ge hr e.symm
    rcases hSo c hc with rfl | h
    · rw [(hb.block _ hcl).trans (show W1.heap[w.heap.size + 1 + 1 + 1]? = _ from hp)] at h2
      simp at h2
    · omega
  exact (heapS _ _ _ _ c hne).trans ((hg.block c (by simp; omega) hrow).trans ((Below.heap_alloc w2 o c hc2).trans (hb.block c hcl)))
theorem row_below {W W' : World} {B n size : Nat} {e : TypeId} {v : Value} {xs : List Value} (h : W.ownsRow B e size v n xs) (hb : Below W.heap.size W W') : W'.ownsRow B e size v n xs :=
  h.kept (row := none) (below_grownBy hb) (by cases hv : v.ownBlock <;> simp)
set_option maxRecDepth 1000000 in
set_option maxHeartbeats 4000000 in
theorem above_any (q : Nat) (p : Key) (t : TT) (hp : p.length ≤ 32) (hlen : ∀ x ∈ t.keys, x.length ≤ 32) (hdp : t.dp ≤ 1000) (w : World) (hT : TAt w ⟨q, 0, none⟩ t) (hq : q < w.heap.size) (hR : RelsAt w) :
    Calls Tryd.prog 35 #[.pointer (some ⟨q, 0, none⟩), .agg #[.int .u32 (ka p), .int .i64 p.length]] w fun e w' => ∃ v, e = .returned v ∧ w'.ownsRow w.heap.size 74 3 v (t.above p).length (rCs (t.above p)) ∧ Below w.heap.size w w' := by
  have hwl : (wayQ t p q).length ≤ 1000 := Nat.le_trans way_len hdp
  have h0 : 0 < w.heap.size := World.block_lt_of_cell? w _ hR.c0
  have HT := Lib.hid hT
  have HR := Lib.hid hR
  have Hlen := Lib.hid hlen
  obtain ⟨i0, hi, hz0, hz1, hz2⟩ := info_parts info74
  clear hT hR hlen
  refine (callsIn_wide (n := 3)).1 ?_
  refine callsIn_of_wp_marks Tryd.func35 rfl trivial ?_ rfl
  simp only [Tryd.ntmps35, List.size_toArray, List.length_cons, List.length_nil, Nat.reduceAdd, Nat.reduceSub, Array.replicate_succ, Array.replicate_zero, List.push_toArray, List.append_toArray, List.nil_append, List.cons_append]
  refine wpIn_wide.2 ?_
  go_wp2_with (go_at_call 57; refine (down_any q p _).mono ?_; rintro e w2 ⟨rfl, rfl⟩)
  refine (wpIn_wide (n := 3)).1 ?_
  generalize hW : ((((w.alloc (Obj.cells #[Value.int IntKind.u32 (ka p), Value.int IntKind.i64 p.length] 26)).alloc (Obj.cells #[Value.slice none 0 0] 71)).alloc (Obj.cells #[Value.pointer (some ⟨q, 0, none⟩)] 28)).alloc (Obj.cells #[Value.int IntKind.u32 (ka p), Value.int IntKind.i64 p.length] 26)) = W
  have hB : Below w.heap.size w W := by subst hW; exact (((((Below.refl _ _).alloc (Nat.le_refl _) _).alloc (by simp) _).alloc (by simp; omega) _).alloc (by simp; omega) _)
  have hsz : W.heap.size = w.heap.size + 1 + 1 + 1 + 1 := by subst hW; simp
  have hx0 : Boxed W (w.heap.size + 1) 71 (.slice none 0 0) := by subst hW; unfold Boxed; simp only [heapA, World.size_alloc]; repeat (first | rw [if_pos trivial] | rw [if_neg (by omega)])
  have hBq : W.heap[w.heap.size + 1 + 1]? = some (.cells #[.pointer (some ⟨q, 0, none⟩)] 28) := by subst hW; simp only [heapA, World.size_alloc]; repeat (first | rw [if_pos trivial] | rw [if_neg (by omega)])
  have hBp : W.heap[w.heap.size + 1 + 1 + 1]? = some (.cells #[.int .u32 (ka p), .int .i64 p.length] 26) := by subst hW; simp only [heapA, World.size_alloc]; repeat (first | rw [if_pos trivial] | rw [if_neg (by omega)])
  clear hW
  have hTW : TAt W ⟨q, 0, none⟩ t := HT.out.below hq rfl hB
  have hRW := HR.out.below hB
  have hblt : ∀ c ∈ t.blocks, c < w.heap.size := fun c hc => HT.out.2.lt hc
  have hS : ∀ c ∈ (w.heap.size + 1 + 1 + 1) :: 0 :: q :: t.blocks, c < W.heap.size := by
    intro c hc
    simp only [List.mem_cons] at hc
    rcases hc with rfl | rfl | rfl | hc
    · omega
    · omega
    · omega
    · have := hblt c hc; omega
  have Hblt := Lib.hid hblt
  have HS := Lib.hid hS
  have HSlt := Lib.hid (show ∀ c ∈ (w.heap.size + 1 + 1 + 1) :: 0 :: q :: t.blocks, c < W.heap.size from hS)
  have HSo := Lib.hid (show ∀ c ∈ (w.heap.size + 1 + 1 + 1) :: 0 :: q :: t.blocks, c = w.heap.size + 1 + 1 + 1 ∨ c < w.heap.size from fun c hc => by
    simp only [List.mem_cons] at hc
    rcases hc with rfl | rfl | rfl | hc
    · exact .inl rfl
    · exact .inr h0
    · exact .inr hq
    · exact .inr (hblt c hc))
  clear hblt hS
  refine wpIn_rangeFunc_ownH rfl (by omega) (gf := 75) (lb := #[.pointer (some ⟨w.heap.size + 1 + 1, 0, none⟩), .pointer (some ⟨w.heap.size + 1 + 1 + 1, 0, none⟩)]) rfl trivial (enters_of Tryd.func75 (by kernel_rfl) rfl)
    (down_stops (3 - 1) _ _ q p t _ hp Hlen.out W hBq hBp hTW hRW HS.out (by simp) (by simp) (fun c hc => by simp [hc]) (by simp)) kpS_t (kpS_b HS.out) (Below.refl _ _) (fun _ => rfl)
    (vI t p q w (w.heap.size + 1)) (fun _ _ _ => False) (vI_own _ _ _ _ _ _ (by omega)) (fun _ _ _ _ _ hs _ _ => hs)
    ⟨⟨⟨_, hx0, World.ownsRow_nil _ _ _ _, trivial⟩, hBp⟩, hB⟩
    (fun x a' _ => a' = { tmps := #[.pointer (some ⟨q, 0, none⟩), .agg #[.int .u32 (ka p), .int .i64 p.length], undef, .pointer (some ⟨w.heap.size, 0, none⟩), .slice none 0 0, .pointer (some ⟨w.heap.size + 1, 0, none⟩), .pointer (some (wayAt t p q x).1), undef, .pointer (some ⟨q, 0, none⟩), .agg #[.int .u32 (ka p), .int .i64 p.length], .func (.func 75) #[] #[.pointer (some ⟨w.heap.size + 1 + 1, 0, none⟩), .pointer (some ⟨w.heap.size + 1 + 1 + 1, 0, none⟩)], .pointer (some (wayAt t p q x).1), undef, undef, undef, undef, undef, undef, undef, undef, undef, undef, undef, undef, undef, undef, undef, undef], defers := [] })
    (fun _ _ _ _ _ _ hs _ _ => hs) ?assign ?body ?done ?stop
  case assign =>
    rintro l pre x W1 K hI hK
    unfold encD
    gi_wp2_with fail
    exact hK _ _ ((KeepsOthers.refl _).from _) (fun _ _ => rfl) hI rfl
  case body =>
    rintro l pre x a' W1 hl' ⟨r, hr⟩ ⟨⟨⟨v, hv, hrow, _⟩, hpb⟩, hB1⟩ rfl hlt
    obtain ⟨hA, hsp, hblk, hbl, b, k, o, lc, rc, hnode, hkp⟩ := way_at HT.out rfl (wayAt_mem t p q x)
    obtain ⟨y, hy⟩ : ∃ y, wayAt t p q x = y := ⟨_, rfl⟩
    rw [hy] at hA hsp hblk hbl hnode ⊢
    obtain ⟨⟨ab, ao, asp⟩, s⟩ := y
    simp only at hA hsp hblk hbl hnode ⊢
    subst hsp hnode
    have hab : ab < w.heap.size := by
      rcases hblk with h | h
      · rw [h]; exact hq
      · exact Hblt.out _ h
    have hA1 := hA.below hab rfl hB1
    have ca := hA1.1
    have n3 := hA1.2.c3
    simp only [TT.ptr] at ca
    have hsn := abv_snoc t p q pre x
    rw [hy] at hsn
    have hal := abv_len pre
    cases o with
    | none =>
      simp only [Option.isSome_none] at n3
      have HI := Lib.hid (show vI t p q w (w.heap.size + 1) pre W1 from ⟨⟨⟨v, hv, hrow, trivial⟩, hpb⟩, hB1⟩)
      have HSn := Lib.hid hsn
      clear hsn hv hrow hB1 hA hA1 hblk hbl hr hTW hRW hB hBq hBp hx0
      gi_wp2_with fail
      refine ⟨(KeepsOthers.refl _).from _, fun _ _ => rfl, ?_⟩
      unfold vI
      rw [HSn.out]
      rw [show abv t p q pre ++ nodeR (.node b k none lc rc) = abv t p q pre by simp [nodeR, TT.rowO]]
      exact HI.out
    | some u =>
      simp only [Option.isSome_some] at n3
      have c0 := hv.cell
      have f0 := hv.frozen
      have HRo := Lib.hid (row_any b k u lc rc)
      have HA1 := Lib.hid hA1
      have HSn := Lib.hid hsn
      have HV := Lib.hid hv
      have HRw := Lib.hid hrow
      have HPb := Lib.hid hpb
      have HB1 := Lib.hid hB1
      clear hsn hv hrow hB1 hA hA1 hblk hbl hr hTW hRW hB hBq hBp hx0
      gi_wp2_with fail
      have hIn1 : (TT.node b k (some u) lc rc).In W1.drew := HA1.out.2.below (Below.refl _ _).drew
      have hbw : w.heap.size + 1 < W1.heap.size := HV.out.lt
      refine wpIn_region_round (n := 0) (by kernel_rfl) (by kernel_rfl) (fun ⟨_, _, h⟩ => h) ?_
      refine wpAny_ready (rs := [0, 1]) (by kernel_rfl) (by simp) (AllReady.cons rfl (fun K hK => ?_) (AllReady.cons rfl (fun K hK => ?_) AllReady.nil))
      · go_simp
        refine hK _ _ ?_
        clear hK K
        refine wpAny_ready (rs := [1]) (by kernel_rfl) (by simp) (AllReady.cons rfl (fun K hK => ?_) AllReady.nil)
        go_simp
        refine hK _ _ ?_
        clear hK K
        refine wpAny_ready (rs := [2]) (by kernel_rfl) (by simp) (AllReady.cons rfl (fun K hK => ?_) AllReady.nil)
        go_simp
        refine (HRo.out _ hIn1).mono ?_
        rintro e w2 ⟨rfl, hb2⟩
        have hb2' : Below W1.heap.size W1 w2 := ⟨hb2.os, hb2.tape, hb2.output, hb2.size, hb2.block⟩
        have c2 : w2.cell? ⟨w.heap.size + 1, 0, none⟩ = some v := (hb2.cell (p := ⟨w.heap.size + 1, 0, none⟩) hbw).trans c0
        have hv2 : Boxed w2 (w.heap.size + 1) 71 v := (hb2.block _ hbw).trans HV.out
        have hB2 : Below w.heap.size w w2 := bthen HB1.out hb2'
        have hrow2 : w2.ownsRow w.heap.size 74 3 v (abv t p q pre).length (rCs (abv t p q pre)) := row_below HRw.out hb2'
        refine hK _ _ ?_
        clear hK K
        refine wpAny_ready (rs := [3]) (by kernel_rfl) (by simp) (AllReady.cons rfl (fun K hK => ?_) AllReady.nil)
        go_simp
        have c3 := (((Below.refl _ w2).alloc (Nat.le_refl _) (.cells #[.int .u32 (ka k), .int .i64 k.length, .int .i64 u] 74)).cell (p := ⟨w.heap.size + 1, 0, none⟩) hv2.lt).trans c2
        refine hK _ _ ?_
        clear hK K
        refine wpAny_ready (rs := [4]) (by kernel_rfl) (by simp) (AllReady.cons rfl (fun K hK => ?_) AllReady.nil)
        refine step_append_lies _ (by rfl) _ _ _ (by rfl) w.heap.size 74 i0 _ 3 24 Tryd.underlying71 hi hz0 hz1 hz2 rfl (by omega) v (abv t p q pre).length (rCs (abv t p q pre)) (by rfl) (hrow2.alloc _) ⟨w2.heap.size, 0, none⟩ 1 1 (rC (k, u)) (by rfl) (by rfl) (cells_three_new _ _ _ _ _) (by simp [rC, Value.oneCell']) (by omega) (by unfold maxLen; omega) (by omega) (by have := hB2.size; simp; omega) (w2.heap.size + 1) (by simp) ?_
        intro g' cap1 w3 hown1 hgrow hat hlt3
        obtain ⟨hv1, hv3, hr3, hk3, hb3⟩ := hv2.appended (by decide) hrow2 hB2.size (by omega) hown1 hgrow
        have c4 := hv1.cell
        have f4 := hv1.frozen
        refine hK _ _ ?_
        clear hK K
        refine wpAny_ready (rs := [5]) (by kernel_rfl) (by simp) (AllReady.cons rfl (fun K hK => ?_) AllReady.nil)
        go_simp
        refine hK _ _ ?_
        clear hK K
        refine wpAny_done (by kernel_rfl) ?_ _
        refine ⟨((KeepsOthers.drew W1).trans ((below_keeps' hb2).trans hk3)).from _, kept_app HSlt.out HSo.out hb2' hrow2 hgrow HV.out.lt HPb.out, ?_⟩
        unfold vI
        rw [HSn.out, show nodeR (.node b k (some u) lc rc) = [(k, u)] from rfl, rCs_app, List.length_append]
        exact ⟨⟨⟨_, hv3, by simpa [rCs] using hr3, trivial⟩, (kept_app HSlt.out HSo.out hb2' hrow2 hgrow HV.out.lt HPb.out _ (List.mem_cons_self ..)).trans HPb.out⟩, hB2.trans hb3⟩
      · go_simp
        refine hK _ _ ?_
        clear hK K
        refine wpAny_ready (rs := [0, 2]) (by kernel_rfl) (by simp) (AllReady.cons rfl (fun K hK => ?_) (AllReady.cons rfl (fun K hK => ?_) AllReady.nil))
        · go_simp
          refine hK _ _ ?_
          clear hK K
          refine wpAny_ready (rs := [2]) (by kernel_rfl) (by simp) (AllReady.cons rfl (fun K hK => ?_) AllReady.nil)
          go_simp
          refine (HRo.out _ hIn1).mono ?_
          rintro e w2 ⟨rfl, hb2⟩
          have hb2' : Below W1.heap.size W1 w2 := ⟨hb2.os, hb2.tape, hb2.output, hb2.size, hb2.block⟩
          have c2 : w2.cell? ⟨w.heap.size + 1, 0, none⟩ = some v := (hb2.cell (p := ⟨w.heap.size + 1, 0, none⟩) hbw).trans c0
          have hv2 : Boxed w2 (w.heap.size + 1) 71 v := (hb2.block _ hbw).trans HV.out
          have hB2 : Below w.heap.size w w2 := bthen HB1.out hb2'
          have hrow2 : w2.ownsRow w.heap.size 74 3 v (abv t p q pre).length (rCs (abv t p q pre)) := row_below HRw.out hb2'
          refine hK _ _ ?_
          clear hK K
          refine wpAny_ready (rs := [3]) (by kernel_rfl) (by simp) (AllReady.cons rfl (fun K hK => ?_) AllReady.nil)
          go_simp
          have c3 := (((Below.refl _ w2).alloc (Nat.le_refl _) (.cells #[.int .u32 (ka k), .int .i64 k.length, .int .i64 u] 74)).cell (p := ⟨w.heap.size + 1, 0, none⟩) hv2.lt).trans c2
          refine hK _ _ ?_
          clear hK K
          refine wpAny_ready (rs := [4]) (by kernel_rfl) (by simp) (AllReady.cons rfl (fun K hK => ?_) AllReady.nil)
          refine step_append_lies _ (by rfl) _ _ _ (by rfl) w.heap.size 74 i0 _ 3 24 Tryd.underlying71 hi hz0 hz1 hz2 rfl (by omega) v (abv t p q pre).length (rCs (abv t p q pre)) (by rfl) (hrow2.alloc _) ⟨w2.heap.size, 0, none⟩ 1 1 (rC (k, u)) (by rfl) (by rfl) (cells_three_new _ _ _ _ _) (by simp [rC, Value.oneCell']) (by omega) (by unfold maxLen; omega) (by omega) (by have := hB2.size; simp; omega) (w2.heap.size + 1) (by simp) ?_
          intro g' cap1 w3 hown1 hgrow hat hlt3
          obtain ⟨hv1, hv3, hr3, hk3, hb3⟩ := hv2.appended (by decide) hrow2 hB2.size (by omega) hown1 hgrow
          have c4 := hv1.cell
          have f4 := hv1.frozen
          refine hK _ _ ?_
          clear hK K
          refine wpAny_ready (rs := [5]) (by kernel_rfl) (by simp) (AllReady.cons rfl (fun K hK => ?_) AllReady.nil)
          go_simp
          refine hK _ _ ?_
          clear hK K
          refine wpAny_done (by kernel_rfl) ?_ _
          refine ⟨((KeepsOthers.drew W1).trans ((below_keeps' hb2).trans hk3)).from _, kept_app HSlt.out HSo.out hb2' hrow2 hgrow HV.out.lt HPb.out, ?_⟩
          unfold vI
          rw [HSn.out, show nodeR (.node b k (some u) lc rc) = [(k, u)] from rfl, rCs_app, List.length_append]
          exact ⟨⟨⟨_, hv3, by simpa [rCs] using hr3, trivial⟩, (kept_app HSlt.out HSo.out hb2' hrow2 hgrow HV.out.lt HPb.out _ (List.mem_cons_self ..)).trans HPb.out⟩, hB2.trans hb3⟩
        · go_simp
          refine (HRo.out _ hIn1).mono ?_
          rintro e w2 ⟨rfl, hb2⟩
          have hb2' : Below W1.heap.size W1 w2 := ⟨hb2.os, hb2.tape, hb2.output, hb2.size, hb2.block⟩
          have c2 : w2.cell? ⟨w.heap.size + 1, 0, none⟩ = some v := (hb2.cell (p := ⟨w.heap.size + 1, 0, none⟩) hbw).trans c0
          have hv2 : Boxed w2 (w.heap.size + 1) 71 v := (hb2.block _ hbw).trans HV.out
          have hB2 : Below w.heap.size w w2 := bthen HB1.out hb2'
          have hrow2 : w2.ownsRow w.heap.size 74 3 v (abv t p q pre).length (rCs (abv t p q pre)) := row_below HRw.out hb2'
          refine hK _ _ ?_
          clear hK K
          refine wpAny_ready (rs := [0, 3]) (by kernel_rfl) (by simp) (AllReady.cons rfl (fun K hK => ?_) (AllReady.cons rfl (fun K hK => ?_) AllReady.nil))
          · go_simp
            refine hK _ _ ?_
            clear hK K
            refine wpAny_ready (rs := [3]) (by kernel_rfl) (by simp) (AllReady.cons rfl (fun K hK => ?_) AllReady.nil)
            go_simp
            have c3 := (((Below.refl _ w2).alloc (Nat.le_refl _) (.cells #[.int .u32 (ka k), .int .i64 k.length, .int .i64 u] 74)).cell (p := ⟨w.heap.size + 1, 0, none⟩) hv2.lt).trans c2
            refine hK _ _ ?_
            clear hK K
            refine wpAny_ready (rs := [4]) (by kernel_rfl) (by simp) (AllReady.cons rfl (fun K hK => ?_) AllReady.nil)
            refine step_append_lies _ (by rfl) _ _ _ (by rfl) w.heap.size 74 i0 _ 3 24 Tryd.underlying71 hi hz0 hz1 hz2 rfl (by omega) v (abv t p q pre).length (rCs (abv t p q pre)) (by rfl) (hrow2.alloc _) ⟨w2.heap.size, 0, none⟩ 1 1 (rC (k, u)) (by rfl) (by rfl) (cells_three_new _ _ _ _ _) (by simp [rC, Value.oneCell']) (by omega) (by unfold maxLen; omega) (by omega) (by have := hB2.size; simp; omega) (w2.heap.size + 1) (by simp) ?_
            intro g' cap1 w3 hown1 hgrow hat hlt3
            obtain ⟨hv1, hv3, hr3, hk3, hb3⟩ := hv2.appended (by decide) hrow2 hB2.size (by omega) hown1 hgrow
            have c4 := hv1.cell
            have f4 := hv1.frozen
            refine hK _ _ ?_
            clear hK K
            refine wpAny_ready (rs := [5]) (by kernel_rfl) (by simp) (AllReady.cons rfl (fun K hK => ?_) AllReady.nil)
            go_simp
            refine hK _ _ ?_
            clear hK K
            refine wpAny_done (by kernel_rfl) ?_ _
            refine ⟨((KeepsOthers.drew W1).trans ((below_keeps' hb2).trans hk3)).from _, kept_app HSlt.out HSo.out hb2' hrow2 hgrow HV.out.lt HPb.out, ?_⟩
            unfold vI
            rw [HSn.out, show nodeR (.node b k (some u) lc rc) = [(k, u)] from rfl, rCs_app, List.length_append]
            exact ⟨⟨⟨_, hv3, by simpa [rCs] using hr3, trivial⟩, (kept_app HSlt.out HSo.out hb2' hrow2 hgrow HV.out.lt HPb.out _ (List.mem_cons_self ..)).trans HPb.out⟩, hB2.trans hb3⟩
          · go_simp
            have c3 := (((Below.refl _ w2).alloc (Nat.le_refl _) (.cells #[.int .u32 (ka k), .int .i64 k.length, .int .i64 u] 74)).cell (p := ⟨w.heap.size + 1, 0, none⟩) hv2.lt).trans c2
            refine hK _ _ ?_
            clear hK K
            refine wpAny_ready (rs := [0]) (by kernel_rfl) (by simp) (AllReady.cons rfl (fun K hK => ?_) AllReady.nil)
            go_simp
            refine hK _ _ ?_
            clear hK K
            refine wpAny_ready (rs := [4]) (by kernel_rfl) (by simp) (AllReady.cons rfl (fun K hK => ?_) AllReady.nil)
            refine step_append_lies _ (by rfl) _ _ _ (by rfl) w.heap.size 74 i0 _ 3 24 Tryd.underlying71 hi hz0 hz1 hz2 rfl (by omega) v (abv t p q pre).length (rCs (abv t p q pre)) (by rfl) (hrow2.alloc _) ⟨w2.heap.size, 0, none⟩ 1 1 (rC (k, u)) (by rfl) (by rfl) (cells_three_new _ _ _ _ _) (by simp [rC, Value.oneCell']) (by omega) (by unfold maxLen; omega) (by omega) (by have := hB2.size; simp; omega) (w2.heap.size + 1) (by simp) ?_
            intro g' cap1 w3 hown1 hgrow hat hlt3
            obtain ⟨hv1, hv3, hr3, hk3, hb3⟩ := hv2.appended (by decide) hrow2 hB2.size (by omega) hown1 hgrow
            have c4 := hv1.cell
            have f4 := hv1.frozen
            refine hK _ _ ?_
            clear hK K
            refine wpAny_ready (rs := [5]) (by kernel_rfl) (by simp) (AllReady.cons rfl (fun K hK => ?_) AllReady.nil)
            go_simp
            refine hK _ _ ?_
            clear hK K
            refine wpAny_done (by kernel_rfl) ?_ _
            refine ⟨((KeepsOthers.drew W1).trans ((below_keeps' hb2).trans hk3)).from _, kept_app HSlt.out HSo.out hb2' hrow2 hgrow HV.out.lt HPb.out, ?_⟩
            unfold vI
            rw [HSn.out, show nodeR (.node b k (some u) lc rc) = [(k, u)] from rfl, rCs_app, List.length_append]
            exact ⟨⟨⟨_, hv3, by simpa [rCs] using hr3, trivial⟩, (kept_app HSlt.out HSo.out hb2' hrow2 hgrow HV.out.lt HPb.out _ (List.mem_cons_self ..)).trans HPb.out⟩, hB2.trans hb3⟩
  case done =>
    rintro D xs W1 hD rfl ⟨⟨⟨v, hv, hrow, _⟩, hpb⟩, hB1⟩ hK
    have c0 := hv.cell
    rw [abv_all] at hrow
    go_wp2_with fail
    refine ⟨by simp, .inl ⟨_, _, rfl, run_takeDeferred hK, ?_⟩⟩
    exact ⟨_, results_tmp rfl _ _ _, v, rfl, ownsRow_putObj hrow _ hK rfl, hB1.trans (belowK_b (w := w) (Nat.le_refl _) W1 D _ _ (by omega) hK rfl rfl)⟩
  case stop =>
    rintro D c pre W1 _ _ h _
    exact h.elim
end Go.Proofs.YtbacahoihkpkpaaDoor
/- Lists of rows in memory; the function value of trie.told, as an iterator. -/
namespace Go.Proofs.YtbacahoihkpkpaaDoor
open Go.RowKit Go.Shelf

attribute [local go_sem] Oper.semAt_some

/-- a list of rows behind a slice's address -/
structure RL (W : World) (base : Option Addr) (g o : Nat) (L : List (Key × Int)) : Prop where
  lt : g < W.heap.size
  row : ∀ i x, L[i]? = some x → base = some ⟨g, o, none⟩ ∧ W.cell? ⟨g, o + i * 3, none⟩ = some (.int .u32 (ka x.1)) ∧ W.cell? ⟨g, o + i * 3 + 1, none⟩ = some (.int .i64 x.1.length) ∧ W.cell? ⟨g, o + i * 3 + 2, none⟩ = some (.int .i64 x.2)
theorem RL.of_block {W W' : World} {base : Option Addr} {g o : Nat} {L : List (Key × Int)} (h : RL W base g o L) (e : W'.heap[g]? = W.heap[g]?) : RL W' base g o L := by
  have hl : g < W'.heap.size := by
    have := h.lt
    rcases Nat.lt_or_ge g W'.heap.size with h' | h'
    · exact h'
    · rw [Array.getElem?_eq_none h', Array.getElem?_eq_getElem this] at e; cases e
  have hc : ∀ o, W'.cell? ⟨g, o, none⟩ = W.cell? ⟨g, o, none⟩ := fun o => World.cell?_of_block (w := W) (a := ⟨g, o, none⟩) e
  exact ⟨hl, fun i r hr => by obtain ⟨h0, h1, h2, h3⟩ := h.row i r hr; exact ⟨h0, (hc _).trans h1, (hc _).trans h2, (hc _).trans h3⟩⟩
theorem RL.below {W W' : World} {base : Option Addr} {g o : Nat} {L : List (Key × Int)} (h : RL W base g o L) (hb : Below W.heap.size W W') : RL W' base g o L := h.of_block (hb.block g h.lt)
theorem RL.none {W : World} (h : 0 < W.heap.size) (o : Nat) : RL W none 0 o [] := ⟨h, fun i r hr => by simp at hr⟩
theorem RL.drop {W : World} {base : Option Addr} {g o : Nat} {L : List (Key × Int)} (h : RL W base g o L) (n : Nat) : RL W (base.map fun a => ⟨a.block, a.off + n * 3, a.spot⟩) g (o + n * 3) (L.drop n) := by
  refine ⟨h.lt, fun i x hx => ?_⟩
  rw [List.getElem?_drop] at hx
  obtain ⟨h0, h1, h2, h3⟩ := h.row _ x hx
  have e : o + (n + i) * 3 = o + n * 3 + i * 3 := by omega
  rw [e] at h1 h2 h3
  exact ⟨by rw [h0]; rfl, h1, h2, h3⟩
theorem rCs_at {xs : List (Key × Int)} {i : Nat} {x : Key × Int} (h : xs[i]? = some x) : (rCs xs)[i * 3]? = some (.int .u32 (ka x.1)) ∧ (rCs xs)[i * 3 + 1]? = some (.int .i64 x.1.length) ∧ (rCs xs)[i * 3 + 2]? = some (.int .i64 x.2) := by
  induction xs generalizing i with
  | nil => simp at h
  | cons q L ih =>
    have e : rCs (q :: L) = .int .u32 (ka q.1) :: .int .i64 q.1.length :: .int .i64 q.2 :: rCs L := by simp [rCs, rC]
    cases i with
    | zero => simp at h; subst h; rw [e]; exact ⟨rfl, rfl, rfl⟩
    | succ i =>
      simp at h
      obtain ⟨h1, h2, h3⟩ := ih h
      rw [e, show (i + 1) * 3 = i * 3 + 1 + 1 + 1 by omega, show i * 3 + 1 + 1 + 1 + 1 = (i * 3 + 1) + 1 + 1 + 1 by omega, show i * 3 + 1 + 1 + 1 + 2 = (i * 3 + 2) + 1 + 1 + 1 by omega]
      simp only [List.getElem?_cons_succ]
      exact ⟨h1, h2, h3⟩
theorem rl_of_row {W : World} {B : Nat} {v : Value} {e : TypeId} {L : List (Key × Int)} (h : W.ownsRow B e 3 v L.length (rCs L)) (h0 : 0 < W.heap.size) :
    ∃ (base : Option Addr) (g cap : Nat), v = .slice base L.length cap ∧ RL W base g 0 L ∧ (base = none ∨ B ≤ g) ∧ L.length ≤ cap := by
  rcases h.2 with ⟨rfl, hl⟩ | ⟨g, cap, cur, rfl, hb, hc, h1, h2, h3, h4⟩
  · have : L = [] := List.eq_nil_of_length_eq_zero hl
    subst this
    exact ⟨none, 0, 0, rfl, RL.none h0 0, .inl rfl, by simp⟩
  · refine ⟨some ⟨g, 0, none⟩, g, cap, rfl, ⟨(Array.getElem?_eq_some_iff.1 hc).1, fun i r hr => ⟨rfl, ?_⟩⟩, .inr hb, h1⟩
    obtain ⟨k1, k2, k3⟩ := rCs_at hr
    have ha : ∀ {j : Nat} {u : Value}, (rCs L)[j]? = some u → cur[j]? = some u := fun {j u} hj => by
      rw [← h4, List.getElem?_take] at hj
      split at hj
      · simpa using hj
      · cases hj
    simp only [Nat.zero_add]
    rw [cell_heap hc, cell_heap hc, cell_heap hc]
    exact ⟨ha k1, ha k2, ha k3⟩

/-- what is handed to a round -/
def rAt (L : List (Key × Int)) (k : Fin L.length) : Key × Int := L[k.1]'k.2
def encR (L : List (Key × Int)) (k : Fin L.length) : Array Value := #[.agg #[.int .u32 (ka (rAt L k).1), .int .i64 (rAt L k).1.length], .int .i64 (rAt L k).2]
/-- a round keeps the box and the list -/
def KpA (b g : Nat) (W W' : World) : Prop := W'.heap[b]? = W.heap[b]? ∧ W'.heap[g]? = W.heap[g]?
theorem kpA_t {b g : Nat} {A B C : World} (h : KpA b g A B) (k : KpA b g B C) : KpA b g A C := ⟨k.1.trans h.1, k.2.trans h.2⟩
theorem kpA_b {b g : Nat} {w : World} (hb : b < w.heap.size) (h2 : g < w.heap.size) (W : World) (l : Nat) (o o' : Obj) (hl : w.heap.size ≤ l) (_ : W.heap[l]? = some o) (_ : o.isCells = false) (_ : o.isWalk = false) : KpA b g W (W.putObj l o') := by
  unfold KpA World.putObj
  simp only [Array.getElem?_setIfInBounds]
  rw [if_neg (by omega), if_neg (by omega)]
  exact ⟨rfl, rfl⟩

set_option maxRecDepth 100000 in
set_option maxHeartbeats 2000000 in
theorem told1_in (n l Bs g o cap : Nat) (base : Option Addr) (L : List (Key × Int)) (hL : L.length < 1000000) (J Jx : List (Fin L.length) → World → Prop) (W : World) (hJ : AbidesFrom W.heap.size J)
    (hY : ∀ pre x W1, J pre W1 → pre.length < L.length → YieldAt Fence.wide (n - 1) Tryd.prog l (encR L x) W1 fun e W' =>
      (e = .returned (.bool true) ∧ J (pre ++ [x]) W' ∧ KpA Bs g W1 W') ∨ (e = .returned (.bool false) ∧ Jx (pre ++ [x]) W'))
    (hB : W.heap[Bs]? = some (.cells #[.slice base L.length cap] 71)) (hS : RL W base g o L) (h0 : J [] W) :
    CallsIn Fence.wide n Tryd.prog 60 #[.func (.yield l) #[] #[], .pointer (some ⟨Bs, 0, none⟩)] W fun e W' => (∃ v, e = .returned v) ∧
      ((∃ xs, xs = upF L.length L.length ∧ J xs W') ∨ (∃ pre, (∃ k, k ≤ L.length ∧ pre = upF L.length k) ∧ Jx pre W')) := by
  refine callsIn_of_wp Tryd.func60 rfl trivial ?_ rfl
  simp only [Tryd.ntmps60, List.size_toArray, List.length_cons, List.length_nil, Nat.reduceAdd, Nat.reduceSub, Array.replicate_succ, Array.replicate_zero, List.push_toArray, List.append_toArray, List.nil_append, List.cons_append]
  have hJn : ∀ pre A o, J pre A → J pre (A.alloc o) := fun pre A o h => hJ pre A _ none h (World.grownBy_alloc A o none) (by simp)
  have HJ := Lib.hid hJn
  clear hJn hJ
  have HY := Lib.hid hY
  clear hY
  have e0 : W.cell? ⟨Bs, 0, none⟩ = some (.slice base L.length cap) := by simp [World.cell?, hB]
  refine wpIn_wide.2 ?_
  go_wp2_with fail
  go_step3
  go_wp2_with fail
  refine wp_label ?_
  go_wp2_with fail
  refine (wpIn_wide (n := n)).1 ?_
  gi_loopw [7] (fun i wr => ∃ (k : Nat), k ≤ L.length ∧ i = .int .i64 k ∧ J (upF L.length k) wr ∧ RL wr base g o L) (fun i _ => L.length - (intOf i).toNat)
  case atStart => exact ⟨0, by omega, rfl, by rw [upF_zero]; exact h0, hS⟩
  case round =>
    obtain ⟨k, hk, rfl, hJk, hSk⟩ := hrel
    clear h0 hS
    by_cases hkL : k < L.length
    · have t1 : decide ((k : Int) < (L.length : Int)) = true := by simp [hkL]
      have t1' : decide (k < L.length) = true := by simp [hkL]
      have i0 : (0 : Int) ≤ (k : Int) := by omega
      obtain ⟨r, hr⟩ : ∃ r, L[k]? = some r := ⟨_, List.getElem?_eq_getElem hkL⟩
      have hra : rAt L ⟨k, hkL⟩ = r := by
        unfold rAt
        have := List.getElem?_eq_getElem hkL
        rw [hr] at this
        exact (Option.some.inj this).symm
      obtain ⟨rfl, z0, z1, z2⟩ := hSk.row k r hr
      have hgl := hSk.lt
      have HS := Lib.hid hSk
      have HJk := Lib.hid hJk
      clear hSk hJk hr
      obtain ⟨fn, tmps, assign, body, hy, hR⟩ := (HY.out (upF L.length k) ⟨k, hkL⟩ _ (HJ.out _ _ (.cells #[.int .u32 (ka r.1), .int .i64 r.1.length, .int .i64 r.2] 74) HJk.out) (by rw [upF_len hk]; exact hkL)).mono (R' := fun e W' => ∃ b : Bool, e = .returned (.bool b) ∧ (b = true → J (upF L.length (k + 1)) W' ∧ KpA Bs g (wr.alloc (.cells #[.int .u32 (ka r.1), .int .i64 r.1.length, .int .i64 r.2] 74)) W') ∧ (b = false → Jx (upF L.length (k + 1)) W')) (by
        rintro e W' (⟨he, h1, h2⟩ | ⟨he, h1⟩)
        · exact ⟨true, he, fun _ => ⟨by rw [upF_succ hkL]; exact h1, h2⟩, by simp⟩
        · exact ⟨false, he, by simp, fun _ => by rw [upF_succ hkL]; exact h1⟩)
      simp only [encR, hra] at hy
      gi_wp2_with fail
      refine ⟨wide_d, hR.mono ?_⟩
      rintro e W3 ⟨b, rfl, hb1, hb2⟩
      clear hR hy
      cases b with
      | false =>
        have hJ3 := hb2 rfl
        clear hb1 hb2
        gi_wp2_with fail
        rw [Exit.noGoto_normal]
        go_end0
        exact ⟨⟨_, rfl⟩, .inr ⟨_, ⟨k + 1, by omega, rfl⟩, hJ3⟩⟩
      | true =>
        obtain ⟨hJ3, hK3⟩ := hb1 rfl
        clear hb1 hb2
        have HJ3 := Lib.hid hJ3
        have HK3 := Lib.hid hK3
        clear hJ3 hK3
        gi_wp2_with fail
        refine ⟨⟨k + 1, by omega, by go_num, HJ3.out, ?_⟩, by simp [intOf]; omega⟩
        exact HS.out.of_block (HK3.out.2.trans (Below.heap_alloc _ _ g hgl))
    · obtain rfl : k = L.length := by omega
      gi_wp2_with fail
      rw [Exit.noGoto_normal]
      go_end0
      exact ⟨⟨_, rfl⟩, .inl ⟨_, rfl, hJk⟩⟩

theorem told_stops (n Bs g o cap : Nat) (base : Option Addr) (L : List (Key × Int)) (hL : L.length < 1000000) (w : World) (hB : w.heap[Bs]? = some (.cells #[.slice base L.length cap] 71)) (hS : RL w base g o L) :
    SeqStopsK Fence.wide n Tryd.prog 60 #[.pointer (some ⟨Bs, 0, none⟩)] (encR L) (KpA Bs g) (fun xs => xs = upF L.length L.length) (fun pre => ∃ k, k ≤ L.length ∧ pre = upF L.length k) L.length w :=
  fun l J Jx W hW hJ _ hY h0 => told1_in n l Bs g o cap base L hL J Jx W hJ hY ((hW.block Bs (Array.getElem?_eq_some_iff.1 hB).1).trans hB) (hS.below hW) h0
end Go.Proofs.YtbacahoihkpkpaaDoor
/- Contracts: trie.Find, Above, Len. -/
namespace Go.Proofs.YtbacahoihkpkpaaDoor
open Go.RowKit Go.Shelf

theorem TrS.dp {w : World} {q : Nat} {t : TT} (h : TrS w q t) : t.dp ≤ 1000 := by
  have := TT.dp_le h.wf (q := []) (fun _ _ => List.nil_prefix) (by simp)
  simp at this; omega
theorem addr_key {a : Int} (a0 : 0 ≤ a) (a1 : a < 4294967296) : ∃ p : Key, p.length = 32 ∧ a = ka p := by
  have hr : rightB a 32 = true := by
    rw [rightB_iff a 32 a0 a1]
    exact ⟨by omega, by omega, by simp; omega⟩
  obtain ⟨k, h1, h2, h3⟩ := key_of a0 a1 hr
  exact ⟨k, by omega, h2⟩

set_option maxHeartbeats 400000 in
theorem Len_any (q : Nat) (t : TT) (w : World) (h : TrS w q t) : Calls Tryd.prog 22 #[.pointer (some ⟨q, 0, none⟩)] w fun e w' => e = .returned (.int .i64 t.rows.length) ∧ w = w' := by
  have c1 := h.c1
  have H := Lib.hid h
  clear h
  go_enter Tryd.func22, Tryd.ntmps22
  go_wp2_with (go_at_call 34; with_reducible refine (none_t q t _ H.out).mono ?_; rintro e w' ⟨rfl, rfl⟩)
  go_ret
  exact ⟨rfl, rfl⟩
set_option maxHeartbeats 400000 in
theorem Len_nil (w : World) : Calls Tryd.prog 22 #[.pointer none] w fun e w' => e = .returned (.int .i64 0) ∧ w = w' := by
  go_enter Tryd.func22, Tryd.ntmps22
  go_wp2_with (go_at_call 34; with_reducible refine (none_n _).mono ?_; rintro e w' ⟨rfl, rfl⟩)
  go_ret
  exact ⟨rfl, rfl⟩

/-- what Find tells -/
def findV : Option (Key × Int) → Value
  | some x => .tuple #[.agg #[.int .u32 (ka x.1), .int .i64 x.1.length], .int .i64 x.2, .bool true]
  | none => .tuple #[.agg #[.int .u32 0, .int .i64 0], .int .i64 0, .bool false]

set_option maxHeartbeats 400000 in
theorem Find_nil (a : Int) (w : World) : Calls Tryd.prog 11 #[.pointer none, .int .u32 a] w fun e w' => e = .returned (findV none) ∧ Below w.heap.size w w' := by
  go_enter Tryd.func11, Tryd.ntmps11
  go_wp2_with (go_at_call 34; with_reducible refine (none_n _).mono ?_; rintro e w' ⟨rfl, rfl⟩)
  refine bodyPost_ret (v := .tuple #[.agg #[.int .u32 0, .int .i64 0], .int .i64 0, .bool false]) (by simp [results, Tryd.results11, go_sem]) rfl ⟨rfl, ?_⟩
  exact (Below.refl _ _).alloc (Nat.le_refl _) _

set_option maxRecDepth 100000 in
set_option maxHeartbeats 2000000 in
theorem Find_any (q : Nat) (t : TT) (p : Key) (w : World) (h : TrS w q t) (hR : RelsAt w) (hp : p.length = 32) :
    Calls Tryd.prog 11 #[.pointer (some ⟨q, 0, none⟩), .int .u32 (ka p)] w fun e w' => e = .returned (findV (t.above p).getLast?) ∧ Below w.heap.size w w' := by
  have b0 : Below w.heap.size w (w.alloc (.cells #[.int .u32 0, .int .i64 0] 26)) := (Below.refl _ w).alloc (Nat.le_refl _) _
  have h1 := h.below b0
  have hA0 := above_any q p t (by omega) h1.keysLen h1.dp _ h1.at h1.lt (hR.below b0)
  rw [hp, show ((32 : Nat) : Int) = 32 from rfl] at hA0
  have hA := Lib.hid hA0
  clear hA0
  have hN := Lib.hid (none_t q t _ h1)
  have hpb : PBox (w.alloc (.cells #[.int .u32 0, .int .i64 0] 26)) w.heap.size 0 0 := PBox.new w _ _
  have HPB := Lib.hid hpb
  have HB0 := Lib.hid b0
  have hlen : (t.above p).length ≤ 1000 := by
    have : (t.above p).length ≤ (t.way p ⟨q, 0, none⟩).length := by rw [← abv_all t p q]; have := abv_len (upF (wayQ t p q).length (wayQ t p q).length); rw [upF_len (Nat.le_refl _)] at this; exact this
    exact Nat.le_trans this (Nat.le_trans way_len h.dp)
  clear h h1 hR b0 hpb
  revert hA hlen
  generalize t.above p = L
  intro hA hlen
  rcases Nat.eq_zero_or_pos L.length with hz | hz
  · obtain rfl : L = [] := List.eq_nil_of_length_eq_zero hz
    clear hz hlen
    simp only [List.length_nil] at hA
    go_enter Tryd.func11, Tryd.ntmps11
    go_wp2_with (first
      | (go_at_call 34; with_reducible refine hN.out.mono ?_; rintro e w' ⟨rfl, rfl⟩)
      | (go_at_call 35; with_reducible refine hA.out.mono ?_; rintro e w2 ⟨v, rfl, hrow, hb⟩; have HRow := Lib.hid hrow; have HB := Lib.hid hb; clear hrow hb
         obtain ⟨base, g, cap, rfl, hrl, hbg, hcap⟩ := rl_of_row HRow.out (by have := HB.out.size; simp at this; omega)
         have hpb2 := HPB.out.below HB.out
         have f0 := hpb2.f0
         have f1 := hpb2.f1
         have y0 := hpb2.c0
         have y1 := hpb2.c1
         have HPB2 := Lib.hid hpb2
         clear hrl hpb2)
      | fail)
    have q0 := (HPB2.out.set 0 0).c0
    have q1 := (HPB2.out.set 0 0).c1
    refine bodyPost_ret (v := .tuple #[.agg #[.int .u32 0, .int .i64 0], .int .i64 0, .bool false]) (by simp [results, Tryd.results11, go_sem, q0, q1]) rfl ⟨rfl, ?_⟩
    exact ((HB0.out.trans (HB.out.mono (by simp))).setCell (p := ⟨w.heap.size, 0, none⟩) (Nat.le_refl _) _).setCell (p := ⟨w.heap.size, 1, none⟩) (Nat.le_refl _) _
  · obtain ⟨m, hm⟩ : ∃ m, L.length = m + 1 := ⟨L.length - 1, by omega⟩
    obtain ⟨x, hx⟩ : ∃ x, L[m]? = some x := ⟨_, List.getElem?_eq_getElem (by omega)⟩
    have hl : L.getLast? = some x := by rw [List.getLast?_eq_getElem?, hm]; exact hx
    rw [hl]
    have t0 : (((m : Int) + 1) == 0) = false := by simp; omega
    go_enter Tryd.func11, Tryd.ntmps11
    go_wp2_with (first
      | (go_at_call 34; with_reducible refine hN.out.mono ?_; rintro e w' ⟨rfl, rfl⟩)
      | (go_at_call 35; with_reducible refine hA.out.mono ?_; rintro e w2 ⟨v, rfl, hrow, hb⟩; have HRow := Lib.hid hrow; have HB := Lib.hid hb; clear hrow hb
         obtain ⟨base, g, cap, rfl, hrl, hbg, hcap⟩ := rl_of_row HRow.out (by have := HB.out.size; simp at this; omega)
         obtain ⟨rfl, k0, k1, k2⟩ := hrl.row m x hx
         simp only [Nat.zero_add] at k0 k1 k2
         have hgl := hrl.lt
         have hpb2 := HPB.out.below HB.out
         have f0 := hpb2.f0
         have f1 := hpb2.f1
         have y0 := hpb2.c0
         have y1 := hpb2.c1
         have HPB2 := Lib.hid hpb2
         clear hrl hpb2)
      | fail)
    have hne : w.heap.size ≠ w2.heap.size := by have := HB.out.size; simp at this; omega
    have hP := PBox.alloc HPB2.out (Obj.cells #[Value.int IntKind.u32 (ka x.1), Value.int IntKind.i64 x.1.length, Value.int IntKind.i64 x.2] 74)
    have HX := Lib.hid (((HB0.out.trans (HB.out.mono (by simp))).alloc (B := w.heap.size) (by have := HB.out.size; simp at this; omega) (Obj.cells #[Value.int IntKind.u32 (ka x.1), Value.int IntKind.i64 x.1.length, Value.int IntKind.i64 x.2] 74)))
    have n0 : (w2.alloc (Obj.cells #[Value.int IntKind.u32 (ka x.1), Value.int IntKind.i64 x.1.length, Value.int IntKind.i64 x.2] 74)).cell? ⟨w2.heap.size, 0, none⟩ = some (.int .u32 (ka x.1)) := by simp [go_sem]
    have n1 : (w2.alloc (Obj.cells #[Value.int IntKind.u32 (ka x.1), Value.int IntKind.i64 x.1.length, Value.int IntKind.i64 x.2] 74)).cell? ⟨w2.heap.size, 1, none⟩ = some (.int .i64 x.1.length) := by simp [go_sem]
    have n2 : (w2.alloc (Obj.cells #[Value.int IntKind.u32 (ka x.1), Value.int IntKind.i64 x.1.length, Value.int IntKind.i64 x.2] 74)).cell? ⟨w2.heap.size, 2, none⟩ = some (.int .i64 x.2) := by simp [go_sem]
    clear f0 f1 y0 y1
    have f0 := hP.f0
    have f1 := hP.f1
    have y0 := hP.c0
    have y1 := hP.c1
    have HP := Lib.hid hP
    clear hP k0 k1 k2 hgl HRow HB HPB2 hbg hcap
    generalize w2.alloc (Obj.cells #[Value.int IntKind.u32 (ka x.1), Value.int IntKind.i64 x.1.length, Value.int IntKind.i64 x.2] 74) = X at *
    generalize w2.heap.size = V at *
    go_region_held3 (fun w' => w'.cell? ⟨V, 0, none⟩ = some (.int .u32 (ka x.1)) ∧ w'.cell? ⟨V, 1, none⟩ = some (.int .i64 x.1.length) ∧ w'.cell? ⟨V, 2, none⟩ = some (.int .i64 x.2))
      (go_keep) (fail)
    all_goals go_wp2_with fail
    all_goals
      have q0 := (HP.out.set (ka x.1) x.1.length).drew1.c0
      have q1 := (HP.out.set (ka x.1) x.1.length).drew1.c1
      refine bodyPost_ret (v := .tuple #[.agg #[.int .u32 (ka x.1), .int .i64 x.1.length], .int .i64 x.2, .bool true]) (by simp [results, Tryd.results11, go_sem, q0, q1]) rfl ⟨rfl, ?_⟩
      exact ((HX.out.setCell (p := ⟨w.heap.size, 0, none⟩) (Nat.le_refl _) _).setCell (p := ⟨w.heap.size, 1, none⟩) (Nat.le_refl _) _).drew

/-- what Above and From answer: a function value over a box with rows -/
def toldV (Bs : Nat) : Value := .func (.func 60) #[] #[.pointer (some ⟨Bs, 0, none⟩)]

/-- a function value that tells rows -/
structure Told (W : World) (B : Nat) (v : Value) (L : List (Key × Int)) : Prop where
  ex : ∃ (Bs g o cap : Nat) (base : Option Addr), v = toldV Bs ∧ B ≤ Bs ∧ W.heap[Bs]? = some (.cells #[.slice base L.length cap] 71) ∧ RL W base g o L ∧ L.length ≤ cap
theorem Told.below {W W' : World} {B : Nat} {v : Value} {L : List (Key × Int)} (h : Told W B v L) (hb : Below W.heap.size W W') : Told W' B v L := by
  obtain ⟨Bs, g, o, cap, base, h1, h2, h3, h4, h5⟩ := h.ex
  exact ⟨Bs, g, o, cap, base, h1, h2, (hb.block Bs (Array.getElem?_eq_some_iff.1 h3).1).trans h3, h4.below hb, h5⟩
theorem Told.mk' {W : World} {B g o cap : Nat} {base : Option Addr} {L : List (Key × Int)} (h : RL W base g o L) (hc : L.length ≤ cap) (hB : B ≤ W.heap.size) : Told (W.alloc (.cells #[.slice base L.length cap] 71)) B (toldV W.heap.size) L :=
  ⟨_, g, o, cap, base, rfl, hB, World.alloc_heap_new W _, h.below ((Below.refl _ W).alloc (Nat.le_refl _) _), hc⟩

set_option maxRecDepth 100000 in
set_option maxHeartbeats 2000000 in
theorem Above_any (q : Nat) (t : TT) (p : Key) (w : World) (h : TrS w q t) (hR : RelsAt w) (hp : p.length ≤ 32) :
    Calls Tryd.prog 13 #[.pointer (some ⟨q, 0, none⟩), .agg #[.int .u32 (ka p), .int .i64 p.length]] w fun e w' => ∃ v, e = .returned v ∧ Told w' w.heap.size v (t.above p) ∧ Below w.heap.size w w' := by
  have b0 : Below w.heap.size w (w.alloc (.cells #[.int .u32 (ka p), .int .i64 p.length] 26)) := (Below.refl _ w).alloc (Nat.le_refl _) _
  have h1 := h.below b0
  have h2 := hR.below b0
  have hN := Lib.hid (none_t q t _ h1)
  have HB0 := Lib.hid b0
  have H1 := Lib.hid h1
  have H2 := Lib.hid h2
  have hC := Lib.hid (Check_t (ka p) p.length (w.alloc (.cells #[.int .u32 (ka p), .int .i64 p.length] 26)) (ka_right hp))
  clear h h1 h2 hR b0
  go_enter Tryd.func13, Tryd.ntmps13
  go_wp2_with (first
    | (go_at_call 34; with_reducible refine hN.out.mono ?_; rintro e w' ⟨rfl, rfl⟩)
    | (go_at_call 36; with_reducible refine hC.out.mono ?_; rintro e w1 ⟨rfl, hb⟩; have HB1 := Lib.hid hb
       have e0 := (hb.cell (p := ⟨w.heap.size, 0, none⟩) (by simp)).trans (show (w.alloc (.cells #[.int .u32 (ka p), .int .i64 p.length] 26)).cell? ⟨w.heap.size, 0, none⟩ = some (.int .u32 (ka p)) by simp [go_sem])
       have e1 := (hb.cell (p := ⟨w.heap.size, 1, none⟩) (by simp)).trans (show (w.alloc (.cells #[.int .u32 (ka p), .int .i64 p.length] 26)).cell? ⟨w.heap.size, 1, none⟩ = some (.int .i64 p.length) by simp [go_sem])
       have h3 := H1.out.below hb
       have hA := Lib.hid (above_any q p t (by omega) h3.keysLen h3.dp _ h3.at h3.lt (H2.out.below hb))
       clear hb h3)
    | (go_at_call 35; with_reducible refine hA.out.mono ?_; rintro e w2 ⟨v, rfl, hrow, hb⟩; have HB := Lib.hid hb; have HW := Lib.hid hrow; clear hb hrow
       obtain ⟨base, g, cap, rfl, hrl, hbg, hcap⟩ := rl_of_row HW.out (by have := HB.out.size; have := HB1.out.size; simp at this; omega)
       have HRl := Lib.hid hrl
       clear hrl)
    | (go_at_call 37; with_reducible refine (told_any _ _ _ _ rfl _).mono ?_; rintro e w' ⟨rfl, rfl⟩)
    | fail)
  go_ret
  have z1 := HB1.out.size
  have z2 := HB.out.size
  simp at z1
  have b2 : Below w.heap.size w w2 := (HB0.out.trans (HB1.out.mono (by simp))).trans (HB.out.mono (by omega))
  exact ⟨_, rfl, Told.mk' HRl.out hcap b2.size, b2.alloc b2.size _⟩

theorem Told.nil {W : World} (h : 0 < W.heap.size) {B : Nat} (hB : B ≤ W.heap.size) : Told (W.alloc (.cells #[.slice none 0 0] 71)) B (toldV W.heap.size) [] := Told.mk' (RL.none h 0) (by simp) hB

set_option maxRecDepth 100000 in
set_option maxHeartbeats 2000000 in
theorem Above_arg (q : Nat) (t : TT) (a n : Int) (w : World) (h : TrS w q t) (hr : rightB a n = false) :
    Calls Tryd.prog 13 #[.pointer (some ⟨q, 0, none⟩), .agg #[.int .u32 a, .int .i64 n]] w fun e w' => ∃ v, e = .returned v ∧ Told w' w.heap.size v [] ∧ Below w.heap.size w w' := by
  have b0 : Below w.heap.size w (w.alloc (.cells #[.int .u32 a, .int .i64 n] 26)) := (Below.refl _ w).alloc (Nat.le_refl _) _
  have hN := Lib.hid (none_t q t _ (h.below b0))
  have HB0 := Lib.hid b0
  have hC := Lib.hid (Check_f a n (w.alloc (.cells #[.int .u32 a, .int .i64 n] 26)) hr)
  clear h b0
  go_enter Tryd.func13, Tryd.ntmps13
  go_wp2_with (first
    | (go_at_call 34; with_reducible refine hN.out.mono ?_; rintro e w' ⟨rfl, rfl⟩)
    | (go_at_call 36; with_reducible refine hC.out.mono ?_; rintro e w1 ⟨rfl, hb⟩; have HB1 := Lib.hid hb; clear hb)
    | (go_at_call 37; with_reducible refine (told_any _ _ _ _ rfl _).mono ?_; rintro e w' ⟨rfl, rfl⟩)
    | fail)
  go_ret
  have z1 := HB1.out.size
  simp at z1
  have b2 : Below w.heap.size w w1 := HB0.out.trans (HB1.out.mono (by simp))
  exact ⟨_, rfl, Told.nil (by omega) b2.size, b2.alloc b2.size _⟩

set_option maxRecDepth 100000 in
set_option maxHeartbeats 2000000 in
theorem Above_nil (a n : Int) (w : World) :
    Calls Tryd.prog 13 #[.pointer none, .agg #[.int .u32 a, .int .i64 n]] w fun e w' => ∃ v, e = .returned v ∧ Told w' w.heap.size v [] ∧ Below w.heap.size w w' := by
  have b0 : Below w.heap.size w (w.alloc (.cells #[.int .u32 a, .int .i64 n] 26)) := (Below.refl _ w).alloc (Nat.le_refl _) _
  have HB0 := Lib.hid b0
  clear b0
  go_enter Tryd.func13, Tryd.ntmps13
  go_wp2_with (first
    | (go_at_call 34; with_reducible refine (none_n _).mono ?_; rintro e w' ⟨rfl, rfl⟩)
    | (go_at_call 37; with_reducible refine (told_any _ _ _ _ rfl _).mono ?_; rintro e w' ⟨rfl, rfl⟩)
    | fail)
  go_ret
  exact ⟨_, rfl, (show w.heap.size + 1 = (w.alloc (.cells #[.int .u32 a, .int .i64 n] 26)).heap.size by simp) ▸ Told.nil (by simp) HB0.out.size, HB0.out.alloc HB0.out.size _⟩
end Go.Proofs.YtbacahoihkpkpaaDoor
/- Contracts: trie.rows, its walk. -/
namespace Go.Proofs.YtbacahoihkpkpaaDoor
open Go.RowKit Go.Shelf Go.Maps

attribute [local go_sem] Oper.semAt_some

def walkV (n : Nat) : Value := .func (.func 66) #[] #[.pointer (some ⟨n, 0, none⟩), .pointer (some ⟨n + 1, 0, none⟩)]
/-- the list being made, and the walk's own box -/
structure WS (w0 W : World) (L : List (Key × Int)) : Prop where
  below : Below w0.heap.size w0 W
  wk : W.heap[w0.heap.size + 1]? = some (.cells #[walkV w0.heap.size] 117)
  row : ∃ v, Boxed W w0.heap.size 71 v ∧ W.ownsRow w0.heap.size 74 3 v L.length (rCs L)
theorem WS.wc {w0 W : World} {L : List (Key × Int)} (h : WS w0 W L) : W.cell? ⟨w0.heap.size + 1, 0, none⟩ = some (.func (.func 66) #[] #[.pointer (some ⟨w0.heap.size, 0, none⟩), .pointer (some ⟨w0.heap.size + 1, 0, none⟩)]) := by simp [World.cell?, h.wk, walkV]
theorem WS.step {w0 W W' : World} {L : List (Key × Int)} (h : WS w0 W L) (hb : Below W.heap.size W W') : WS w0 W' L := by
  obtain ⟨v, h1, h2⟩ := h.row
  exact ⟨bthen h.below hb, (hb.block _ (Array.getElem?_eq_some_iff.1 h.wk).1).trans h.wk, v, (hb.block _ h1.lt).trans h1, row_below h2 hb⟩
theorem kept_app2 {N : Nat} {w2 w3 : World} {v v' : Value} {n : Nat} {xs : List Value} {o : Obj} {x : Value} (hw : w2.heap[N + 1]? = some (.cells #[x] 117)) (hr : w2.ownsRow N 74 3 v n xs)
    (hg : (w2.alloc o).grownBy w3 v.ownBlock) : (w3.setCell ⟨N, 0, none⟩ v').heap[N + 1]? = some (.cells #[x] 117) := by
  have hl : N + 1 < w2.heap.size := (Array.getElem?_eq_some_iff.1 hw).1
  have hrow : some (N + 1) ≠ v.ownBlock := by
    intro e
    obtain ⟨h1, cur, h2⟩ := own_ge hr e.symm
    rw [hw] at h2
    simp at h2
  exact (heapS _ _ _ _ (N + 1) (by omega)).trans ((hg.block (N + 1) (by simp; omega) hrow).trans ((Below.heap_alloc w2 o (N + 1) hl).trans hw))

set_option maxRecDepth 1000000 in
set_option maxHeartbeats 4000000 in
theorem rows1_any (w0 : World) (T : TT) : ∀ (W : World) (L : List (Key × Int)), T.In w0 → WS w0 W L → L.length + T.rows.length ≤ 1000000000 →
    Calls Tryd.prog 66 #[T.ptr, .pointer (some ⟨w0.heap.size, 0, none⟩), .pointer (some ⟨w0.heap.size + 1, 0, none⟩)] W fun e w' => (∃ v, e = .returned v) ∧ WS w0 w' (L ++ T.rows) := by
  induction T with
  | nil =>
    intro W L _ hS _
    simp only [TT.ptr, TT.rows, List.append_nil]
    go_enter Tryd.func66, Tryd.ntmps66
    go_wp2_with fail
    exact bodyPost_ret (results_none rfl _ _ _) rfl ⟨⟨_, rfl⟩, hS⟩
  | node b k o lc rc il ir =>
    intro W1 L hin hS hlen
    obtain ⟨i0, hi, hz0, hz1, hz2⟩ := info_parts info74
    have hin1 : (TT.node b k o lc rc).In W1 := hin.below hS.below
    have n3 := hin1.c3
    have n4 := hin1.c4
    have n5 := hin1.c5
    have x0 := hS.wc
    have HIn := Lib.hid hin
    have HS := Lib.hid hS
    have IL := Lib.hid il
    have IR := Lib.hid ir
    simp only [TT.rows, List.length_append] at hlen
    have hl2 : (TT.rowO k o).length + L.length + lc.rows.length + rc.rows.length ≤ 1000000000 := by omega
    clear hin hin1 hS il ir
    rw [show (TT.node b k o lc rc).ptr = .pointer (some ⟨b, 0, none⟩) from rfl]
    have hrest : ∀ (l : List (Key × Int)) (W : World), WS w0 W (L ++ l) → l = TT.rowO k o → True := fun _ _ _ _ => trivial
    clear hrest
    cases o with
    | none =>
      simp only [Option.isSome_none] at n3
      simp only [TT.rowO, List.length_nil] at hl2
      go_enter Tryd.func66, Tryd.ntmps66
      go_upto_region 4 with fail
      have HM := Lib.hid (show WS w0 W1 (L ++ TT.rowO k none) from by rw [TT.rowO, List.append_nil]; exact HS.out)
      clear x0 n3 n4 n5
      have x0 := HM.out.wc
      have n4 := (HIn.out.below HM.out.below).c4
      have n5 := (HIn.out.below HM.out.below).c5
      refine wp_region_tail 6 (by kernel_rfl) (by kernel_rfl) ?_
      simp only [List.take_succ_cons, List.take_zero, List.drop_succ_cons, List.drop_zero]
      repeat still_step
      refine wpStill_nil ?_
      have h1 := HM.out.step (Below.refl _ W1).drew
      have HL1 := Lib.hid (IL.out W1.drew _ HIn.out.2.1 h1 (by simp [TT.rowO]; omega))
      clear h1
      go_upto_region 5 with (go_at_call 66; with_reducible refine HL1.out.mono ?_; rintro e w2 ⟨⟨v2, rfl⟩, hS2⟩; have HS2 := Lib.hid hS2; clear hS2 x0 n4 n5; have x0 := HS2.out.wc; have n5 := (HIn.out.below HS2.out.below).c5)
      refine wp_region_tail 6 (by kernel_rfl) (by kernel_rfl) ?_
      simp only [List.take_succ_cons, List.take_zero, List.drop_succ_cons, List.drop_zero]
      repeat still_step
      refine wpStill_nil ?_
      have h2 := HS2.out.step (Below.refl _ w2).drew
      have HL2 := Lib.hid (IR.out w2.drew _ HIn.out.2.2 h2 (by simp [TT.rowO]; omega))
      clear h2
      go_wp2_with (go_at_call 66; with_reducible refine HL2.out.mono ?_; rintro e w3 ⟨⟨v3, rfl⟩, hS3⟩)
      refine bodyPost_end (results_none rfl _ _ _) rfl ⟨⟨_, rfl⟩, ?_⟩
      rw [show (TT.node b k none lc rc).rows = TT.rowO k none ++ (lc.rows ++ rc.rows) from rfl, ← List.append_assoc, ← List.append_assoc]
      exact hS3
    | some u =>
      simp only [Option.isSome_some] at n3
      simp only [TT.rowO, List.length_singleton] at hl2
      go_enter Tryd.func66, Tryd.ntmps66
      go_upto_region 3 with fail
      go_cut [] (fun wx => WS w0 wx (L ++ [(k, u)]))
      case first =>
        have hin1 := HIn.out.below HS.out.below
        have HRo := Lib.hid (row_any b k u lc rc)
        obtain ⟨v, hv, hrow⟩ := HS.out.row
        have c0 := hv.cell
        have f0 := hv.frozen
        have HV := Lib.hid hv
        have HRw := Lib.hid hrow
        have HIn1 := Lib.hid hin1
        have hbw : w0.heap.size < W1.heap.size := hv.lt
        clear hv hrow hin1
        have hInD : (TT.node b k (some u) lc rc).In W1.drew := HIn1.out.below (Below.refl _ _).drew
        refine wp_region_any (by kernel_rfl) ?_
        refine wpAny_ready (rs := [0, 1]) (by kernel_rfl) (by simp) (AllReady.cons rfl (fun K hK => ?_) (AllReady.cons rfl (fun K hK => ?_) AllReady.nil))
        · go_simp
          refine hK _ _ ?_
          clear hK K
          refine wpAny_ready (rs := [1]) (by kernel_rfl) (by simp) (AllReady.cons rfl (fun K hK => ?_) AllReady.nil)
          go_simp
          refine hK _ _ ?_
          clear hK K
          refine wpAny_ready (rs := [2]) (by kernel_rfl) (by simp) (AllReady.cons rfl (fun K hK => ?_) AllReady.nil)
          go_simp
          refine (HRo.out _ hInD).mono ?_
          rintro e w2 ⟨rfl, hb2⟩
          have hb2' : Below W1.heap.size W1 w2 := ⟨hb2.os, hb2.tape, hb2.output, hb2.size, hb2.block⟩
          have c2 : w2.cell? ⟨w0.heap.size, 0, none⟩ = some v := (hb2.cell (p := ⟨w0.heap.size, 0, none⟩) hbw).trans c0
          have hv2 : Boxed w2 w0.heap.size 71 v := (hb2.block _ hbw).trans HV.out
          have hS2 := HS.out.step hb2'
          have hrow2 : w2.ownsRow w0.heap.size 74 3 v L.length (rCs L) := row_below HRw.out hb2'
          refine hK _ _ ?_
          clear hK K
          refine wpAny_ready (rs := [3]) (by kernel_rfl) (by simp) (AllReady.cons rfl (fun K hK => ?_) AllReady.nil)
          go_simp
          have c3 := (((Below.refl _ w2).alloc (Nat.le_refl _) (.cells #[.int .u32 (ka k), .int .i64 k.length, .int .i64 u] 74)).cell (p := ⟨w0.heap.size, 0, none⟩) hv2.lt).trans c2
          refine hK _ _ ?_
          clear hK K
          refine wpAny_ready (rs := [4]) (by kernel_rfl) (by simp) (AllReady.cons rfl (fun K hK => ?_) AllReady.nil)
          refine step_append_lies _ (by rfl) _ _ _ (by rfl) w0.heap.size 74 i0 _ 3 24 Tryd.underlying71 hi hz0 hz1 hz2 rfl (by omega) v L.length (rCs L) (by rfl) (hrow2.alloc _) ⟨w2.heap.size, 0, none⟩ 1 1 (rC (k, u)) (by rfl) (by rfl) (cells_three_new _ _ _ _ _) (by simp [rC, Value.oneCell']) (by omega) (by unfold maxLen; omega) (by omega) (by have := hS2.below.size; simp; omega) (w2.heap.size + 1) (by simp) ?_
          intro g' cap1 w3 hown1 hgrow hat hlt3
          obtain ⟨hv1, hv3, hr3, hk3, hb3⟩ := hv2.appended (by decide) hrow2 hS2.below.size (by omega) hown1 hgrow
          have c4 := hv1.cell
          have f4 := hv1.frozen
          refine hK _ _ ?_
          clear hK K
          refine wpAny_ready (rs := [5]) (by kernel_rfl) (by simp) (AllReady.cons rfl (fun K hK => ?_) AllReady.nil)
          go_simp
          refine hK _ _ ?_
          clear hK K
          refine wpAny_done (by kernel_rfl) ?_ _
          go_wp2_with fail
          go_meet
          exact ⟨hS2.below.trans hb3, kept_app2 hS2.wk hrow2 hgrow, _, hv3, by simpa [rCs] using hr3⟩
        · go_simp
          refine hK _ _ ?_
          clear hK K
          refine wpAny_ready (rs := [0, 2]) (by kernel_rfl) (by simp) (AllReady.cons rfl (fun K hK => ?_) (AllReady.cons rfl (fun K hK => ?_) AllReady.nil))
          · go_simp
            refine hK _ _ ?_
            clear hK K
            refine wpAny_ready (rs := [2]) (by kernel_rfl) (by simp) (AllReady.cons rfl (fun K hK => ?_) AllReady.nil)
            go_simp
            refine (HRo.out _ hInD).mono ?_
            rintro e w2 ⟨rfl, hb2⟩
            have hb2' : Below W1.heap.size W1 w2 := ⟨hb2.os, hb2.tape, hb2.output, hb2.size, hb2.block⟩
            have c2 : w2.cell? ⟨w0.heap.size, 0, none⟩ = some v := (hb2.cell (p := ⟨w0.heap.size, 0, none⟩) hbw).trans c0
            have hv2 : Boxed w2 w0.heap.size 71 v := (hb2.block _ hbw).trans HV.out
            have hS2 := HS.out.step hb2'
            have hrow2 : w2.ownsRow w0.heap.size 74 3 v L.length (rCs L) := row_below HRw.out hb2'
            refine hK _ _ ?_
            clear hK K
            refine wpAny_ready (rs := [3]) (by kernel_rfl) (by simp) (AllReady.cons rfl (fun K hK => ?_) AllReady.nil)
            go_simp
            have c3 := (((Below.refl _ w2).alloc (Nat.le_refl _) (.cells #[.int .u32 (ka k), .int .i64 k.length, .int .i64 u] 74)).cell (p := ⟨w0.heap.size, 0, none⟩) hv2.lt).trans c2
            refine hK _ _ ?_
            clear hK K
            refine wpAny_ready (rs := [4]) (by kernel_rfl) (by simp) (AllReady.cons rfl (fun K hK => ?_) AllReady.nil)
            refine step_append_lies _ (by rfl) _ _ _ (by rfl) w0.heap.size 74 i0 _ 3 24 Tryd.underlying71 hi hz0 hz1 hz2 rfl (by omega) v L.length (rCs L) (by rfl) (hrow2.alloc _) ⟨w2.heap.size, 0, none⟩ 1 1 (rC (k, u)) (by rfl) (by rfl) (cells_three_new _ _ _ _ _) (by simp [rC, Value.oneCell']) (by omega) (by unfold maxLen; omega) (by omega) (by have := hS2.below.size; simp; omega) (w2.heap.size + 1) (by simp) ?_
            intro g' cap1 w3 hown1 hgrow hat hlt3
            obtain ⟨hv1, hv3, hr3, hk3, hb3⟩ := hv2.appended (by decide) hrow2 hS2.below.size (by omega) hown1 hgrow
            have c4 := hv1.cell
            have f4 := hv1.frozen
            refine hK _ _ ?_
            clear hK K
            refine wpAny_ready (rs := [5]) (by kernel_rfl) (by simp) (AllReady.cons rfl (fun K hK => ?_) AllReady.nil)
            go_simp
            refine hK _ _ ?_
            clear hK K
            refine wpAny_done (by kernel_rfl) ?_ _
            go_wp2_with fail
            go_meet
            exact ⟨hS2.below.trans hb3, kept_app2 hS2.wk hrow2 hgrow, _, hv3, by simpa [rCs] using hr3⟩
          · go_simp
            refine (HRo.out _ hInD).mono ?_
            rintro e w2 ⟨rfl, hb2⟩
            have hb2' : Below W1.heap.size W1 w2 := ⟨hb2.os, hb2.tape, hb2.output, hb2.size, hb2.block⟩
            have c2 : w2.cell? ⟨w0.heap.size, 0, none⟩ = some v := (hb2.cell (p := ⟨w0.heap.size, 0, none⟩) hbw).trans c0
            have hv2 : Boxed w2 w0.heap.size 71 v := (hb2.block _ hbw).trans HV.out
            have hS2 := HS.out.step hb2'
            have hrow2 : w2.ownsRow w0.heap.size 74 3 v L.length (rCs L) := row_below HRw.out hb2'
            refine hK _ _ ?_
            clear hK K
            refine wpAny_ready (rs := [0, 3]) (by kernel_rfl) (by simp) (AllReady.cons rfl (fun K hK => ?_) (AllReady.cons rfl (fun K hK => ?_) AllReady.nil))
            · go_simp
              refine hK _ _ ?_
              clear hK K
              refine wpAny_ready (rs := [3]) (by kernel_rfl) (by simp) (AllReady.cons rfl (fun K hK => ?_) AllReady.nil)
              go_simp
              have c3 := (((Below.refl _ w2).alloc (Nat.le_refl _) (.cells #[.int .u32 (ka k), .int .i64 k.length, .int .i64 u] 74)).cell (p := ⟨w0.heap.size, 0, none⟩) hv2.lt).trans c2
              refine hK _ _ ?_
              clear hK K
              refine wpAny_ready (rs := [4]) (by kernel_rfl) (by simp) (AllReady.cons rfl (fun K hK => ?_) AllReady.nil)
              refine step_append_lies _ (by rfl) _ _ _ (by rfl) w0.heap.size 74 i0 _ 3 24 Tryd.underlying71 hi hz0 hz1 hz2 rfl (by omega) v L.length (rCs L) (by rfl) (hrow2.alloc _) ⟨w2.heap.size, 0, none⟩ 1 1 (rC (k, u)) (by rfl) (by rfl) (cells_three_new _ _ _ _ _) (by simp [rC, Value.oneCell']) (by omega) (by unfold maxLen; omega) (by omega) (by have := hS2.below.size; simp; omega) (w2.heap.size + 1) (by simp) ?_
              intro g' cap1 w3 hown1 hgrow hat hlt3
              obtain ⟨hv1, hv3, hr3, hk3, hb3⟩ := hv2.appended (by decide) hrow2 hS2.below.size (by omega) hown1 hgrow
              have c4 := hv1.cell
              have f4 := hv1.frozen
              refine hK _ _ ?_
              clear hK K
              refine wpAny_ready (rs := [5]) (by kernel_rfl) (by simp) (AllReady.cons rfl (fun K hK => ?_) AllReady.nil)
              go_simp
              refine hK _ _ ?_
              clear hK K
              refine wpAny_done (by kernel_rfl) ?_ _
              go_wp2_with fail
              go_meet
              exact ⟨hS2.below.trans hb3, kept_app2 hS2.wk hrow2 hgrow, _, hv3, by simpa [rCs] using hr3⟩
            · go_simp
              have c3 := (((Below.refl _ w2).alloc (Nat.le_refl _) (.cells #[.int .u32 (ka k), .int .i64 k.length, .int .i64 u] 74)).cell (p := ⟨w0.heap.size, 0, none⟩) hv2.lt).trans c2
              refine hK _ _ ?_
              clear hK K
              refine wpAny_ready (rs := [0]) (by kernel_rfl) (by simp) (AllReady.cons rfl (fun K hK => ?_) AllReady.nil)
              go_simp
              refine hK _ _ ?_
              clear hK K
              refine wpAny_ready (rs := [4]) (by kernel_rfl) (by simp) (AllReady.cons rfl (fun K hK => ?_) AllReady.nil)
              refine step_append_lies _ (by rfl) _ _ _ (by rfl) w0.heap.size 74 i0 _ 3 24 Tryd.underlying71 hi hz0 hz1 hz2 rfl (by omega) v L.length (rCs L) (by rfl) (hrow2.alloc _) ⟨w2.heap.size, 0, none⟩ 1 1 (rC (k, u)) (by rfl) (by rfl) (cells_three_new _ _ _ _ _) (by simp [rC, Value.oneCell']) (by omega) (by unfold maxLen; omega) (by omega) (by have := hS2.below.size; simp; omega) (w2.heap.size + 1) (by simp) ?_
              intro g' cap1 w3 hown1 hgrow hat hlt3
              obtain ⟨hv1, hv3, hr3, hk3, hb3⟩ := hv2.appended (by decide) hrow2 hS2.below.size (by omega) hown1 hgrow
              have c4 := hv1.cell
              have f4 := hv1.frozen
              refine hK _ _ ?_
              clear hK K
              refine wpAny_ready (rs := [5]) (by kernel_rfl) (by simp) (AllReady.cons rfl (fun K hK => ?_) AllReady.nil)
              go_simp
              refine hK _ _ ?_
              clear hK K
              refine wpAny_done (by kernel_rfl) ?_ _
              go_wp2_with fail
              go_meet
              exact ⟨hS2.below.trans hb3, kept_app2 hS2.wk hrow2 hgrow, _, hv3, by simpa [rCs] using hr3⟩
      case rest =>
        go_upto_region 4 with fail
        have HM := Lib.hid (show WS w0 wc (L ++ TT.rowO k (some u)) from hcut)
        clear x0 n3 n4 n5
        have x0 := HM.out.wc
        have n4 := (HIn.out.below HM.out.below).c4
        have n5 := (HIn.out.below HM.out.below).c5
        refine wp_region_tail 6 (by kernel_rfl) (by kernel_rfl) ?_
        simp only [List.take_succ_cons, List.take_zero, List.drop_succ_cons, List.drop_zero]
        repeat still_step
        refine wpStill_nil ?_
        have h1 := HM.out.step (Below.refl _ wc).drew
        have HL1 := Lib.hid (IL.out wc.drew _ HIn.out.2.1 h1 (by simp [TT.rowO]; omega))
        clear h1
        go_upto_region 5 with (go_at_call 66; with_reducible refine HL1.out.mono ?_; rintro e w2 ⟨⟨v2, rfl⟩, hS2⟩; have HS2 := Lib.hid hS2; clear hS2 x0 n4 n5; have x0 := HS2.out.wc; have n5 := (HIn.out.below HS2.out.below).c5)
        refine wp_region_tail 6 (by kernel_rfl) (by kernel_rfl) ?_
        simp only [List.take_succ_cons, List.take_zero, List.drop_succ_cons, List.drop_zero]
        repeat still_step
        refine wpStill_nil ?_
        have h2 := HS2.out.step (Below.refl _ w2).drew
        have HL2 := Lib.hid (IR.out w2.drew _ HIn.out.2.2 h2 (by simp [TT.rowO]; omega))
        clear h2
        go_wp2_with (go_at_call 66; with_reducible refine HL2.out.mono ?_; rintro e w3 ⟨⟨v3, rfl⟩, hS3⟩)
        refine bodyPost_end (results_none rfl _ _ _) rfl ⟨⟨_, rfl⟩, ?_⟩
        rw [show (TT.node b k (some u) lc rc).rows = TT.rowO k (some u) ++ (lc.rows ++ rc.rows) from rfl, ← List.append_assoc, ← List.append_assoc]
        exact hS3
end Go.Proofs.YtbacahoihkpkpaaDoor
/- Contract: trie.rows. -/
namespace Go.Proofs.YtbacahoihkpkpaaDoor
open Go.RowKit Go.Shelf Go.Maps

section
open Go.Proofs
theorem store_func {P : Program} {w : World} {a : Addr} {m : Mode} (fn : Fn) (first captured : Array Value) : (store a (.func fn first captured) m).run P w = stored P w a (.func fn first captured) m := run_store P w a _ m rfl
end
attribute [local go_sem] store_func

set_option maxRecDepth 100000 in
set_option maxHeartbeats 2000000 in
theorem rows_any (q : Nat) (t : TT) (w : World) (h : TrS w q t) (hl : t.rows.length ≤ 1000000000) :
    Calls Tryd.prog 45 #[.pointer (some ⟨q, 0, none⟩)] w fun e w' => ∃ v, e = .returned v ∧ w'.ownsRow w.heap.size 74 3 v t.rows.length (rCs t.rows) ∧ Below w.heap.size w w' := by
  have c0 := h.c0
  have hq := h.lt
  have d0 : q ≠ w.heap.size := by omega
  have d1 : q ≠ w.heap.size + 1 := by omega
  have hin := h.at.2
  have HW := Lib.hid (fun W L => rows1_any w t W L hin)
  clear h
  go_enter Tryd.func45, Tryd.ntmps45
  go_upto_region 4 with fail
  generalize hX : ((w.alloc (Obj.cells #[Value.slice none 0 0] 71)).alloc (Obj.cells #[Value.func (Fn.func 66) #[] #[.pointer (some ⟨w.heap.size, 0, none⟩), .pointer (some ⟨w.heap.size + 1, 0, none⟩)]] 117)) = X
  have hS : WS w X [] := by
    subst hX
    refine ⟨((Below.refl _ _).alloc (Nat.le_refl _) _).alloc (by simp) _, ?_, .slice none 0 0, ?_, World.ownsRow_nil _ _ _ _⟩
    · simp only [heapA, World.size_alloc]
      rw [if_pos trivial]
      rfl
    · unfold Boxed
      simp only [heapA, World.size_alloc]
      rw [if_neg (by omega), if_pos trivial]
  clear hX
  have x0 := hS.wc
  have y0 := (hS.below.cell (p := ⟨q, 0, none⟩) hq).trans c0
  have HS := Lib.hid hS
  clear hS c0
  refine wp_region_tail 5 (by kernel_rfl) (by kernel_rfl) ?_
  simp only [List.take_succ_cons, List.take_zero, List.drop_succ_cons, List.drop_zero]
  repeat still_step
  refine wpStill_nil ?_
  have HL := Lib.hid (HW.out X.drew [] (HS.out.step (Below.refl _ X).drew) (by simpa using hl))
  go_upto_region 5 with (go_at_call 66; with_reducible refine HL.out.mono ?_; rintro e w2 ⟨⟨v2, rfl⟩, hS2⟩)
  rw [List.nil_append] at hS2
  obtain ⟨v, hv, hrow⟩ := hS2.row
  have z0 := hv.cell
  have HS2 := Lib.hid hS2
  clear hS2 hv x0 y0
  go_wp2_with fail
  go_ret
  exact ⟨v, rfl, hrow, HS2.out.below⟩
end Go.Proofs.YtbacahoihkpkpaaDoor
/- Contracts: trie.folded[int], Nodes, Depth. -/
namespace Go.Proofs.YtbacahoihkpkpaaDoor
open Go.RowKit Go.Shelf Go.Maps

attribute [local go_sem] store_func

def ptrA (b : Nat) : Value := .pointer (some ⟨b, 0, none⟩)
set_option maxRecDepth 100000 in
set_option maxHeartbeats 4000000 in
theorem fold47_any (f : TT → Nat) (hf0 : f .nil = 0) (W0 : World) (b1 b2 : Nat) (hl1 : b1 < W0.heap.size) (hl2 : b2 < W0.heap.size) (h1 : W0.cell? ⟨b1, 0, none⟩ = some (.func (.func 47) #[] #[]))
    (h2 : W0.cell? ⟨b2, 0, none⟩ = some (.func (.func 67) #[] #[.pointer (some ⟨b1, 0, none⟩), .pointer (some ⟨b2, 0, none⟩)]))
    (hG : ∀ b k o l r W B, (TT.node b k o l r).sz ≤ 1000000000 → W.cell? ⟨B, 0, none⟩ = some (.int .i64 (f l)) → W.cell? ⟨B, 1, none⟩ = some (.int .i64 (f r)) →
      Calls Tryd.prog 47 #[.pointer (some ⟨b, 0, none⟩), .slice (some ⟨B, 0, none⟩) 2 2] W fun e w' => e = .returned (.int .i64 (f (.node b k o l r))) ∧ Below W.heap.size W w')
    (T : TT) : ∀ W, T.In W0 → T.sz ≤ 1000000000 → Below W0.heap.size W0 W →
      Calls Tryd.prog 67 #[T.ptr, .pointer (some ⟨b1, 0, none⟩), .pointer (some ⟨b2, 0, none⟩)] W fun e w' => e = .returned (.int .i64 (f T)) ∧ Below W0.heap.size W0 w' := by
  induction T with
  | nil =>
    intro W _ _ hB
    simp only [TT.ptr, hf0]
    go_enter Tryd.func67, Tryd.ntmps67
    go_wp2_with fail
    go_ret
    exact ⟨rfl, hB⟩
  | node b k o lc rc il ir =>
    intro W hin hsz hB
    have hbl := hin.lt (b := b) (by simp [TT.blocks])
    have m4 := hin.c4
    have m5 := hin.c5
    have hG' := hG b k o lc rc
    have z1 : lc.sz ≤ 1000000000 := by simp only [TT.sz] at hsz; omega
    have z2 : rc.sz ≤ 1000000000 := by simp only [TT.sz] at hsz; omega
    have IL := Lib.hid (fun W => il W hin.2.1 z1)
    have IR := Lib.hid (fun W => ir W hin.2.2 z2)
    have HG := Lib.hid (fun W B => hG' W B hsz)
    have HB := Lib.hid hB
    have HCell := Lib.hid (show ∀ W', Below W0.heap.size W0 W' → W'.cell? ⟨b1, 0, none⟩ = some (.func (.func 47) #[] #[]) ∧ W'.cell? ⟨b2, 0, none⟩ = some (.func (.func 67) #[] #[.pointer (some ⟨b1, 0, none⟩), .pointer (some ⟨b2, 0, none⟩)]) ∧ W'.cell? ⟨b, 4, none⟩ = some lc.ptr ∧ W'.cell? ⟨b, 5, none⟩ = some rc.ptr from fun W' h =>
      ⟨(h.cell (p := ⟨b1, 0, none⟩) hl1).trans h1, (h.cell (p := ⟨b2, 0, none⟩) hl2).trans h2, (h.cell (p := ⟨b, 4, none⟩) hbl).trans m4, (h.cell (p := ⟨b, 5, none⟩) hbl).trans m5⟩)
    obtain ⟨e1, e2, e4, e5⟩ := HCell.out W hB
    have g1 : b1 < W.heap.size := Nat.lt_of_lt_of_le hl1 hB.size
    have g2 : b2 < W.heap.size := Nat.lt_of_lt_of_le hl2 hB.size
    have g3 : b < W.heap.size := Nat.lt_of_lt_of_le hbl hB.size
    rw [show (TT.node b k o lc rc).ptr = .pointer (some ⟨b, 0, none⟩) from rfl]
    clear hG hG' il ir hin m4 m5 h1 h2 hB
    go_enter Tryd.func67, Tryd.ntmps67
    go_wp2_with fail
    go_region_held3 (fun w' => w'.cell? ⟨b1, 0, none⟩ = some (.func (.func 47) #[] #[]) ∧ w'.cell? ⟨b2, 0, none⟩ = some (.func (.func 67) #[] #[.pointer (some ⟨b1, 0, none⟩), .pointer (some ⟨b2, 0, none⟩)]) ∧ w'.cell? ⟨b, 4, none⟩ = some lc.ptr ∧ w'.cell? ⟨b, 5, none⟩ = some rc.ptr)
      (go_keep)
      (first
        | (go_at_call 67; with_reducible refine (IL.out _ (HB.out.drew)).mono ?_; rintro e w2 ⟨rfl, hb2⟩; have HB2 := Lib.hid hb2; obtain ⟨x1, x2, x4, x5⟩ := HCell.out _ hb2; have y1 := Nat.lt_of_lt_of_le hl1 hb2.size; have y2 := Nat.lt_of_lt_of_le hl2 hb2.size; have y3 := Nat.lt_of_lt_of_le hbl hb2.size; clear hb2)
        | (go_at_call 67; with_reducible refine (IR.out _ HB2.out).mono ?_; rintro e w3 ⟨rfl, hb3⟩; have HB3 := Lib.hid hb3; obtain ⟨p1, p2, p4, p5⟩ := HCell.out _ hb3; have q1 := Nat.lt_of_lt_of_le hl1 hb3.size; have q2 := Nat.lt_of_lt_of_le hl2 hb3.size; have q3 := Nat.lt_of_lt_of_le hbl hb3.size; clear hb3)
        | (with_reducible refine (HG.out (w3.alloc (Obj.cells #[.int .i64 (f lc), .int .i64 (f rc)] 3)) w3.heap.size (by simp [go_sem]) (by simp [go_sem])).mono ?_; rintro e w4 ⟨rfl, hb4⟩; have HB4 := Lib.hid hb4; have hb5 := (HB3.out.alloc HB3.out.size (Obj.cells #[.int .i64 (f lc), .int .i64 (f rc)] 3)).trans (hb4.mono (by have := HB3.out.size; simp; omega)); have HB5 := Lib.hid hb5; obtain ⟨r1, r2, r4, r5⟩ := HCell.out _ hb5; clear hb4 hb5))
    all_goals
      go_wp2_with fail
      go_ret
      exact ⟨rfl, HB5.out⟩

set_option maxRecDepth 100000 in
set_option maxHeartbeats 4000000 in
theorem fold48_any (f : TT → Nat) (hf0 : f .nil = 0) (W0 : World) (b1 b2 : Nat) (hl1 : b1 < W0.heap.size) (hl2 : b2 < W0.heap.size) (h1 : W0.cell? ⟨b1, 0, none⟩ = some (.func (.func 48) #[] #[]))
    (h2 : W0.cell? ⟨b2, 0, none⟩ = some (.func (.func 67) #[] #[.pointer (some ⟨b1, 0, none⟩), .pointer (some ⟨b2, 0, none⟩)]))
    (hG : ∀ b k o l r W B, (TT.node b k o l r).sz ≤ 1000000000 → W.cell? ⟨B, 0, none⟩ = some (.int .i64 (f l)) → W.cell? ⟨B, 1, none⟩ = some (.int .i64 (f r)) →
      Calls Tryd.prog 48 #[.pointer (some ⟨b, 0, none⟩), .slice (some ⟨B, 0, none⟩) 2 2] W fun e w' => e = .returned (.int .i64 (f (.node b k o l r))) ∧ Below W.heap.size W w')
    (T : TT) : ∀ W, T.In W0 → T.sz ≤ 1000000000 → Below W0.heap.size W0 W →
      Calls Tryd.prog 67 #[T.ptr, .pointer (some ⟨b1, 0, none⟩), .pointer (some ⟨b2, 0, none⟩)] W fun e w' => e = .returned (.int .i64 (f T)) ∧ Below W0.heap.size W0 w' := by
  induction T with
  | nil =>
    intro W _ _ hB
    simp only [TT.ptr, hf0]
    go_enter Tryd.func67, Tryd.ntmps67
    go_wp2_with fail
    go_ret
    exact ⟨rfl, hB⟩
  | node b k o lc rc il ir =>
    intro W hin hsz hB
    have hbl := hin.lt (b := b) (by simp [TT.blocks])
    have m4 := hin.c4
    have m5 := hin.c5
    have hG' := hG b k o lc rc
    have z1 : lc.sz ≤ 1000000000 := by simp only [TT.sz] at hsz; omega
    have z2 : rc.sz ≤ 1000000000 := by simp only [TT.sz] at hsz; omega
    have IL := Lib.hid (fun W => il W hin.2.1 z1)
    have IR := Lib.hid (fun W => ir W hin.2.2 z2)
    have HG := Lib.hid (fun W B => hG' W B hsz)
    have HB := Lib.hid hB
    have HCell := Lib.hid (show ∀ W', Below W0.heap.size W0 W' → W'.cell? ⟨b1, 0, none⟩ = some (.func (.func 48) #[] #[]) ∧ W'.cell? ⟨b2, 0, none⟩ = some (.func (.func 67) #[] #[.pointer (some ⟨b1, 0, none⟩), .pointer (some ⟨b2, 0, none⟩)]) ∧ W'.cell? ⟨b, 4, none⟩ = some lc.ptr ∧ W'.cell? ⟨b, 5, none⟩ = some rc.ptr from fun W' h =>
      ⟨(h.cell (p := ⟨b1, 0, none⟩) hl1).trans h1, (h.cell (p := ⟨b2, 0, none⟩) hl2).trans h2, (h.cell (p := ⟨b, 4, none⟩) hbl).trans m4, (h.cell (p := ⟨b, 5, none⟩) hbl).trans m5⟩)
    obtain ⟨e1, e2, e4, e5⟩ := HCell.out W hB
    have g1 : b1 < W.heap.size := Nat.lt_of_lt_of_le hl1 hB.size
    have g2 : b2 < W.heap.size := Nat.lt_of_lt_of_le hl2 hB.size
    have g3 : b < W.heap.size := Nat.lt_of_lt_of_le hbl hB.size
    rw [show (TT.node b k o lc rc).ptr = .pointer (some ⟨b, 0, none⟩) from rfl]
    clear hG hG' il ir hin m4 m5 h1 h2 hB
    go_enter Tryd.func67, Tryd.ntmps67
    go_wp2_with fail
    go_region_held3 (fun w' => w'.cell? ⟨b1, 0, none⟩ = some (.func (.func 48) #[] #[]) ∧ w'.cell? ⟨b2, 0, none⟩ = some (.func (.func 67) #[] #[.pointer (some ⟨b1, 0, none⟩), .pointer (some ⟨b2, 0, none⟩)]) ∧ w'.cell? ⟨b, 4, none⟩ = some lc.ptr ∧ w'.cell? ⟨b, 5, none⟩ = some rc.ptr)
      (go_keep)
      (first
        | (go_at_call 67; with_reducible refine (IL.out _ (HB.out.drew)).mono ?_; rintro e w2 ⟨rfl, hb2⟩; have HB2 := Lib.hid hb2; obtain ⟨x1, x2, x4, x5⟩ := HCell.out _ hb2; have y1 := Nat.lt_of_lt_of_le hl1 hb2.size; have y2 := Nat.lt_of_lt_of_le hl2 hb2.size; have y3 := Nat.lt_of_lt_of_le hbl hb2.size; clear hb2)
        | (go_at_call 67; with_reducible refine (IR.out _ HB2.out).mono ?_; rintro e w3 ⟨rfl, hb3⟩; have HB3 := Lib.hid hb3; obtain ⟨p1, p2, p4, p5⟩ := HCell.out _ hb3; have q1 := Nat.lt_of_lt_of_le hl1 hb3.size; have q2 := Nat.lt_of_lt_of_le hl2 hb3.size; have q3 := Nat.lt_of_lt_of_le hbl hb3.size; clear hb3)
        | (with_reducible refine (HG.out (w3.alloc (Obj.cells #[.int .i64 (f lc), .int .i64 (f rc)] 3)) w3.heap.size (by simp [go_sem]) (by simp [go_sem])).mono ?_; rintro e w4 ⟨rfl, hb4⟩; have HB4 := Lib.hid hb4; have hb5 := (HB3.out.alloc HB3.out.size (Obj.cells #[.int .i64 (f lc), .int .i64 (f rc)] 3)).trans (hb4.mono (by have := HB3.out.size; simp; omega)); have HB5 := Lib.hid hb5; obtain ⟨r1, r2, r4, r5⟩ := HCell.out _ hb5; clear hb4 hb5))
    all_goals
      go_wp2_with fail
      go_ret
      exact ⟨rfl, HB5.out⟩

theorem dp_le_sz (t : TT) : t.dp ≤ t.sz := by
  induction t with
  | nil => simp [TT.dp, TT.sz]
  | node b k o l r il ir => simp only [TT.dp, TT.sz]; omega
set_option maxRecDepth 100000 in
set_option maxHeartbeats 400000 in
theorem Nodes1_any (b : Nat) (k : Key) (o : Option Int) (l r : TT) (W : World) (B : Nat) (hs : (TT.node b k o l r).sz ≤ 1000000000) (h0 : W.cell? ⟨B, 0, none⟩ = some (.int .i64 l.sz)) (h1 : W.cell? ⟨B, 1, none⟩ = some (.int .i64 r.sz)) :
    Calls Tryd.prog 47 #[.pointer (some ⟨b, 0, none⟩), .slice (some ⟨B, 0, none⟩) 2 2] W fun e w' => e = .returned (.int .i64 (TT.node b k o l r).sz) ∧ Below W.heap.size W w' := by
  simp only [TT.sz] at hs ⊢
  have z1 : IntKind.i64.wrap ((l.sz : Int) + r.sz) = (l.sz : Int) + r.sz := IntWalk.i64_in _ ⟨by omega, by omega⟩
  have z2 : IntKind.i64.wrap ((l.sz : Int) + r.sz + 1) = (l.sz : Int) + r.sz + 1 := IntWalk.i64_in _ ⟨by omega, by omega⟩
  go_enter Tryd.func47, Tryd.ntmps47
  go_wp2_with fail
  refine wp_region_tail 8 (by kernel_rfl) (by kernel_rfl) ?_
  simp only [List.take_succ_cons, List.take_zero, List.drop_succ_cons, List.drop_zero]
  repeat still_step
  refine wpStill_nil ?_
  go_wp2_with fail
  go_ret
  exact ⟨by first | (simp; done) | (simp; omega), (Below.refl _ W).drew⟩
set_option maxRecDepth 100000 in
set_option maxHeartbeats 400000 in
theorem Depth1_any (b : Nat) (k : Key) (o : Option Int) (l r : TT) (W : World) (B : Nat) (hs : (TT.node b k o l r).sz ≤ 1000000000) (h0 : W.cell? ⟨B, 0, none⟩ = some (.int .i64 l.dp)) (h1 : W.cell? ⟨B, 1, none⟩ = some (.int .i64 r.dp)) :
    Calls Tryd.prog 48 #[.pointer (some ⟨b, 0, none⟩), .slice (some ⟨B, 0, none⟩) 2 2] W fun e w' => e = .returned (.int .i64 (TT.node b k o l r).dp) ∧ Below W.heap.size W w' := by
  have q1 := dp_le_sz l
  have q2 := dp_le_sz r
  simp only [TT.sz] at hs
  simp only [TT.dp]
  have z1 : IntKind.i64.wrap ((l.dp : Int) + 1) = (l.dp : Int) + 1 := IntWalk.i64_in _ ⟨by omega, by omega⟩
  have z2 : IntKind.i64.wrap ((r.dp : Int) + 1) = (r.dp : Int) + 1 := IntWalk.i64_in _ ⟨by omega, by omega⟩
  go_enter Tryd.func48, Tryd.ntmps48
  go_wp2_with fail
  refine wp_region_tail 8 (by kernel_rfl) (by kernel_rfl) ?_
  simp only [List.take_succ_cons, List.take_zero, List.drop_succ_cons, List.drop_zero]
  repeat still_step
  refine wpStill_nil ?_
  go_wp2_with fail
  all_goals
    go_ret
    exact ⟨by first | (simp; done) | (simp; omega), (Below.refl _ W).drew⟩

set_option maxRecDepth 100000 in
set_option maxHeartbeats 2000000 in
theorem foldedN47 (T : TT) (w : World) (hin : T.In w) (hsz : T.sz ≤ 1000000000) :
    Calls Tryd.prog 46 #[T.ptr, .func (.func 47) #[] #[]] w fun e w' => e = .returned (.int .i64 T.sz) ∧ Below w.heap.size w w' := by
  have HIn := Lib.hid hin
  clear hin
  go_enter Tryd.func46, Tryd.ntmps46
  go_upto_region 3 with fail
  generalize hX : ((w.alloc (Obj.cells #[Value.func (Fn.func 47) #[] #[]] 93)).alloc (Obj.cells #[Value.func (Fn.func 67) #[] #[.pointer (some ⟨w.heap.size, 0, none⟩), .pointer (some ⟨w.heap.size + 1, 0, none⟩)]] 118)) = X
  have hB : Below w.heap.size w X := by subst hX; exact ((Below.refl _ _).alloc (Nat.le_refl _) _).alloc (by simp) _
  have x1 : X.cell? ⟨w.heap.size, 0, none⟩ = some (.func (.func 47) #[] #[]) := by subst hX; simp [go_sem]
  have x2 : X.cell? ⟨w.heap.size + 1, 0, none⟩ = some (.func (.func 67) #[] #[.pointer (some ⟨w.heap.size, 0, none⟩), .pointer (some ⟨w.heap.size + 1, 0, none⟩)]) := by subst hX; simp [go_sem]
  have hs : X.heap.size = w.heap.size + 2 := by subst hX; simp
  clear hX
  have HL := Lib.hid (fold47_any TT.sz rfl X w.heap.size (w.heap.size + 1) (by omega) (by omega) x1 x2 (fun b k o l r W B h => Nodes1_any b k o l r W B h) T X (HIn.out.below hB) hsz (Below.refl _ _))
  have HB := Lib.hid hB
  clear hB x1
  go_wp2_with (go_at_call 67; with_reducible refine HL.out.mono ?_; rintro e w2 ⟨rfl, hb2⟩)
  go_ret
  exact ⟨rfl, HB.out.trans (hb2.mono (by omega))⟩

set_option maxRecDepth 100000 in
set_option maxHeartbeats 2000000 in
theorem foldedN48 (T : TT) (w : World) (hin : T.In w) (hsz : T.sz ≤ 1000000000) :
    Calls Tryd.prog 46 #[T.ptr, .func (.func 48) #[] #[]] w fun e w' => e = .returned (.int .i64 T.dp) ∧ Below w.heap.size w w' := by
  have HIn := Lib.hid hin
  clear hin
  go_enter Tryd.func46, Tryd.ntmps46
  go_upto_region 3 with fail
  generalize hX : ((w.alloc (Obj.cells #[Value.func (Fn.func 48) #[] #[]] 93)).alloc (Obj.cells #[Value.func (Fn.func 67) #[] #[.pointer (some ⟨w.heap.size, 0, none⟩), .pointer (some ⟨w.heap.size + 1, 0, none⟩)]] 118)) = X
  have hB : Below w.heap.size w X := by subst hX; exact ((Below.refl _ _).alloc (Nat.le_refl _) _).alloc (by simp) _
  have x1 : X.cell? ⟨w.heap.size, 0, none⟩ = some (.func (.func 48) #[] #[]) := by subst hX; simp [go_sem]
  have x2 : X.cell? ⟨w.heap.size + 1, 0, none⟩ = some (.func (.func 67) #[] #[.pointer (some ⟨w.heap.size, 0, none⟩), .pointer (some ⟨w.heap.size + 1, 0, none⟩)]) := by subst hX; simp [go_sem]
  have hs : X.heap.size = w.heap.size + 2 := by subst hX; simp
  clear hX
  have HL := Lib.hid (fold48_any TT.dp rfl X w.heap.size (w.heap.size + 1) (by omega) (by omega) x1 x2 (fun b k o l r W B h => Depth1_any b k o l r W B h) T X (HIn.out.below hB) hsz (Below.refl _ _))
  have HB := Lib.hid hB
  clear hB x1
  go_wp2_with (go_at_call 67; with_reducible refine HL.out.mono ?_; rintro e w2 ⟨rfl, hb2⟩)
  go_ret
  exact ⟨rfl, HB.out.trans (hb2.mono (by omega))⟩

set_option maxRecDepth 100000 in
set_option maxHeartbeats 2000000 in
theorem Nodes_any (q : Nat) (t : TT) (w : World) (h : TrS w q t) (hsz : t.sz ≤ 1000000000) : Calls Tryd.prog 24 #[.pointer (some ⟨q, 0, none⟩)] w fun e w' => e = .returned (.int .i64 t.sz) ∧ Below w.heap.size w w' := by
  have c0 := h.c0
  have HN := Lib.hid (none_t q t _ h)
  have HF := Lib.hid (foldedN47 t w h.here hsz)
  clear h
  go_enter Tryd.func24, Tryd.ntmps24
  go_wp2_with (first
    | (go_at_call 34; with_reducible refine HN.out.mono ?_; rintro e w' ⟨rfl, rfl⟩)
    | (go_at_call 46; with_reducible refine HF.out.mono ?_; rintro e w2 ⟨rfl, hb2⟩)
    | fail)
  go_ret
  exact ⟨rfl, hb2⟩
set_option maxHeartbeats 400000 in
theorem Nodes_nil (w : World) : Calls Tryd.prog 24 #[.pointer none] w fun e w' => e = .returned (.int .i64 0) ∧ w = w' := by
  go_enter Tryd.func24, Tryd.ntmps24
  go_wp2_with (go_at_call 34; with_reducible refine (none_n _).mono ?_; rintro e w' ⟨rfl, rfl⟩)
  go_ret
  exact ⟨rfl, rfl⟩

set_option maxRecDepth 100000 in
set_option maxHeartbeats 2000000 in
theorem Depth_any (q : Nat) (t : TT) (w : World) (h : TrS w q t) (hsz : t.sz ≤ 1000000000) : Calls Tryd.prog 25 #[.pointer (some ⟨q, 0, none⟩)] w fun e w' => e = .returned (.int .i64 t.dp) ∧ Below w.heap.size w w' := by
  have c0 := h.c0
  have HN := Lib.hid (none_t q t _ h)
  have HF := Lib.hid (foldedN48 t w h.here hsz)
  clear h
  go_enter Tryd.func25, Tryd.ntmps25
  go_wp2_with (first
    | (go_at_call 34; with_reducible refine HN.out.mono ?_; rintro e w' ⟨rfl, rfl⟩)
    | (go_at_call 46; with_reducible refine HF.out.mono ?_; rintro e w2 ⟨rfl, hb2⟩)
    | fail)
  go_ret
  exact ⟨rfl, hb2⟩
set_option maxHeartbeats 400000 in
theorem Depth_nil (w : World) : Calls Tryd.prog 25 #[.pointer none] w fun e w' => e = .returned (.int .i64 0) ∧ w = w' := by
  go_enter Tryd.func25, Tryd.ntmps25
  go_wp2_with (go_at_call 34; with_reducible refine (none_n _).mono ?_; rintro e w' ⟨rfl, rfl⟩)
  go_ret
  exact ⟨rfl, rfl⟩
end Go.Proofs.YtbacahoihkpkpaaDoor
