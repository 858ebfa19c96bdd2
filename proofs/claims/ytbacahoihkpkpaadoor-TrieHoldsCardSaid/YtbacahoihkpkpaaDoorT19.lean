/- Contract: trie.above. -/
import Derived.Test.YtbacahoihkpkpaaDoorT18
namespace Go.Proofs.YtbacahoihkpkpaaDoor
open Go.RowKit Go.Shelf Go.Maps

attribute [local go_sem] Oper.semAt_some

/-- the cells of rows -/
def rC (x : Key × Int) : List Value := [.int .u32 (ka x.1), .int .i64 x.1.length, .int .i64 x.2]
def rCs (L : List (Key × Int)) : List Value := L.flatMap rC
theorem rCs_app (L M : List (Key × Int)) : rCs (L ++ M) = rCs L ++ rCs M := by simp [rCs]
def nodeR : TT → List (Key × Int)
  | .nil => []
  | .node _ k o _ _ => TT.rowO k o
def abv (t : TT) (p : Key) (q : Nat) (pre : List (Fin (wayQ t p q).length)) : List (Key × Int) := pre.flatMap fun x => nodeR (wayAt t p q x).2
theorem abv_snoc (t : TT) (p : Key) (q : Nat) (pre : List (Fin (wayQ t p q).length)) (x : Fin (wayQ t p q).length) : abv t p q (pre ++ [x]) = abv t p q pre ++ nodeR (wayAt t p q x).2 := by simp [abv]
theorem way_above (t : TT) (p : Key) (a : Addr) : (t.way p a).flatMap (fun y => nodeR y.2) = t.above p := by
  induction t generalizing a with
  | nil => rfl
  | node b k o l r il ir =>
    simp only [TT.way, TT.above]
    split
    · rw [List.flatMap_cons]
      congr 1
      repeat' split
      · rfl
      · exact ir _
      · exact il _
    · rfl
theorem abv_all (t : TT) (p : Key) (q : Nat) : abv t p q (upF (wayQ t p q).length (wayQ t p q).length) = t.above p := by
  rw [← way_above t p ⟨q, 0, none⟩]
  have hm : (upF (wayQ t p q).length (wayQ t p q).length).map (wayAt t p q) = wayQ t p q := by
    unfold upF
    rw [List.take_of_length_le (by simp)]
    refine List.ext_getElem (by simp) fun i h1 h2 => ?_
    simp [wayAt]
  unfold abv
  rw [show t.way p ⟨q, 0, none⟩ = (upF (wayQ t p q).length (wayQ t p q).length).map (wayAt t p q) from hm.symm, List.flatMap_map]
theorem abv_len {t : TT} {p : Key} {q : Nat} (pre : List (Fin (wayQ t p q).length)) : (abv t p q pre).length ≤ pre.length := by
  induction pre with
  | nil => simp [abv]
  | cons x pre ih =>
    have : abv t p q (x :: pre) = nodeR (wayAt t p q x).2 ++ abv t p q pre := by simp [abv]
    rw [this, List.length_append, List.length_cons]
    have h : (nodeR (wayAt t p q x).2).length ≤ 1 := by
      cases (wayAt t p q x).2 with
      | nil => simp [nodeR]
      | node b k o l r => cases o <;> simp [nodeR, TT.rowO]
    omega
theorem info74 : (Tryd.prog.info? 74).map (fun i => (i.zero, i.size, i.bytes)) = some (some (.agg #[.int .u32 0, .int .i64 0, .int .i64 0]), 3, 24) := by kernel_rfl
theorem cells_three_new (w : World) (a b c : Value) (t : TypeId) : ∀ j u, [a, b, c][j]? = some u → (w.alloc (.cells #[a, b, c] t)).cell? ((⟨w.heap.size, 0, none⟩ : Addr).add j) = some u := by
  intro j u hj
  match j, hj with
  | 0, hj => simp at hj; subst hj; simp [Addr.add, go_sem]
  | 1, hj => simp at hj; subst hj; simp [Addr.add, go_sem]
  | 2, hj => simp at hj; subst hj; simp [Addr.add, go_sem]
  | j + 3, hj => simp at hj

def vI (t : TT) (p : Key) (q : Nat) (w : World) (B : Nat) (pre : List (Fin (wayQ t p q).length)) (W : World) : Prop :=
  ((∃ v, Boxed W B 71 v ∧ W.ownsRow w.heap.size 74 3 v (abv t p q pre).length (rCs (abv t p q pre)) ∧ True) ∧ PBox W (w.heap.size + 1 + 1 + 1) (ka p) p.length) ∧ Below w.heap.size w W
theorem vI_own (t : TT) (p : Key) (q : Nat) (w : World) (B n : Nat) (hn : w.heap.size ≤ n) : OwnFrom n (vI t p q w B) :=
  OwnFrom.and (OwnFrom.and (Own.from (holdsRow_own w.heap.size B 71 74 3 (fun pre => (abv t p q pre).length) (fun pre => rCs (abv t p q pre)) (fun _ _ => True)) _) (Own.from (pbox_own _ (fun _ => ka p) (fun _ => (p.length : Int))) _)) (ownFrom_below (Nat.le_refl _) hn)

theorem own_ge {W : World} {B n size g : Nat} {e : TypeId} {v : Value} {xs : List Value} (h : W.ownsRow B e size v n xs) (hg : v.ownBlock = some g) : B ≤ g ∧ ∃ cur, W.heap[g]? = some (.cells cur e (0, 0)) := by
  rcases h.2 with ⟨rfl, _⟩ | ⟨g', cap, cur, rfl, hb, hc, _⟩
  · simp [Value.ownBlock] at hg
  · simp [Value.ownBlock] at hg
    subst hg
    exact ⟨hb, cur, hc⟩
/-- what an append to the row keeps -/
theorem kept_app {w W1 w2 w3 : World} {S : List Nat} {v v' : Value} {n Wz : Nat} {xs : List Value} {o : Obj} {pa pn : Int} (_hS : ∀ c ∈ S, c < Wz) (hSo : ∀ c ∈ S, c = w.heap.size + 1 + 1 + 1 ∨ c < w.heap.size) (hb : Below W1.heap.size W1 w2) (hr : w2.ownsRow w.heap.size 74 3 v n xs)
    (hg : (w2.alloc o).grownBy w3 v.ownBlock) (hl : w.heap.size + 1 < W1.heap.size) (hp : PBox W1 (w.heap.size + 1 + 1 + 1) pa pn) : KpS S W1 (w3.setCell ⟨w.heap.size + 1, 0, none⟩ v') := by
  intro c hc
  have hcl : c < W1.heap.size := by rcases hSo c hc with rfl | h; exact hp.lt; omega
  have hc2 : c < w2.heap.size := Nat.lt_of_lt_of_le hcl hb.size
  have hne : c ≠ w.heap.size + 1 := by rcases hSo c hc with rfl | h <;> omega
  have hrow : some c ≠ v.ownBlock := by
    intro e
    obtain ⟨h1, cur, h2⟩ := own_ge hr e.symm
    rcases hSo c hc with rfl | h
    · rw [(hb.block _ hcl).trans (show W1.heap[w.heap.size + 1 + 1 + 1]? = _ from hp)] at h2
      simp at h2
    · omega
  exact (heapS _ _ _ _ c hne).trans ((hg.block c (by simp; omega) hrow).trans ((Below.heap_alloc w2 o c hc2).trans (hb.block c hcl)))
theorem row_below {W W' : World} {B n size : Nat} {e : TypeId} {v : Value} {xs : List Value} (h : W.ownsRow B e size v n xs) (hb : Below W.heap.size W W') : W'.ownsRow B e size v n xs :=
  h.kept (row := none) (below_grownBy hb) (by cases hv : v.ownBlock <;> simp)
set_option maxRecDepth 1000000 in
set_option maxHeartbeats 4000000 in
theorem above_any (q : Nat) (p : Key) (t : TT) (hp : p.length ≤ 32) (hlen : ∀ x ∈ t.keys, x.length ≤ 32) (hdp : t.dp ≤ 1000) (w : World) (hT : TAt w ⟨q, 0, none⟩ t) (hq : q < w.heap.size) (hR : RelsAt w) :
    Calls Tryd.prog 35 #[.pointer (some ⟨q, 0, none⟩), .agg #[.int .u32 (ka p), .int .i64 p.length]] w fun e w' => ∃ v, e = .returned v ∧ w'.ownsRow w.heap.size 74 3 v (t.above p).length (rCs (t.above p)) ∧ Below w.heap.size w w' := by
  have hwl : (wayQ t p q).length ≤ 1000 := Nat.le_trans way_len hdp
  have h0 : 0 < w.heap.size := World.block_lt_of_cell? w _ hR.c0
  have HT := Lib.hid hT
  have HR := Lib.hid hR
  have Hlen := Lib.hid hlen
  obtain ⟨i0, hi, hz0, hz1, hz2⟩ := info_parts info74
  clear hT hR hlen
  refine (callsIn_wide (n := 3)).1 ?_
  refine callsIn_of_wp_marks Tryd.func35 rfl trivial ?_ rfl
  simp only [Tryd.ntmps35, List.size_toArray, List.length_cons, List.length_nil, Nat.reduceAdd, Nat.reduceSub, Array.replicate_succ, Array.replicate_zero, List.push_toArray, List.append_toArray, List.nil_append, List.cons_append]
  refine wpIn_wide.2 ?_
  go_wp2_with (go_at_call 57; refine (down_any q p _).mono ?_; rintro e w2 ⟨rfl, rfl⟩)
  refine (wpIn_wide (n := 3)).1 ?_
  generalize hW : ((((w.alloc (Obj.cells #[Value.int IntKind.u32 (ka p), Value.int IntKind.i64 p.length] 26)).alloc (Obj.cells #[Value.slice none 0 0] 71)).alloc (Obj.cells #[Value.pointer (some ⟨q, 0, none⟩)] 28)).alloc (Obj.cells #[Value.int IntKind.u32 (ka p), Value.int IntKind.i64 p.length] 26)) = W
  have hB : Below w.heap.size w W := by subst hW; exact (((((Below.refl _ _).alloc (Nat.le_refl _) _).alloc (by simp) _).alloc (by simp; omega) _).alloc (by simp; omega) _)
  have hsz : W.heap.size = w.heap.size + 1 + 1 + 1 + 1 := by subst hW; simp
  have hx0 : Boxed W (w.heap.size + 1) 71 (.slice none 0 0) := by subst hW; unfold Boxed; simp only [heapA, World.size_alloc]; repeat (first | rw [if_pos trivial] | rw [if_neg (by omega)])
  have hBq : W.heap[w.heap.size + 1 + 1]? = some (.cells #[.pointer (some ⟨q, 0, none⟩)] 28) := by subst hW; simp only [heapA, World.size_alloc]; repeat (first | rw [if_pos trivial] | rw [if_neg (by omega)])
  have hBp : W.heap[w.heap.size + 1 + 1 + 1]? = some (.cells #[.int .u32 (ka p), .int .i64 p.length] 26) := by subst hW; simp only [heapA, World.size_alloc]; repeat (first | rw [if_pos trivial] | rw [if_neg (by omega)])
  clear hW
  have hTW : TAt W ⟨q, 0, none⟩ t := HT.out.below hq rfl hB
  have hRW := HR.out.below hB
  have hblt : ∀ c ∈ t.blocks, c < w.heap.size := fun c hc => HT.out.2.lt hc
  have hS : ∀ c ∈ (w.heap.size + 1 + 1 + 1) :: 0 :: q :: t.blocks, c < W.heap.size := by
    intro c hc
    simp only [List.mem_cons] at hc
    rcases hc with rfl | rfl | rfl | hc
    · omega
    · omega
    · omega
    · have := hblt c hc; omega
  have Hblt := Lib.hid hblt
  have HS := Lib.hid hS
  have HSlt := Lib.hid (show ∀ c ∈ (w.heap.size + 1 + 1 + 1) :: 0 :: q :: t.blocks, c < W.heap.size from hS)
  have HSo := Lib.hid (show ∀ c ∈ (w.heap.size + 1 + 1 + 1) :: 0 :: q :: t.blocks, c = w.heap.size + 1 + 1 + 1 ∨ c < w.heap.size from fun c hc => by
    simp only [List.mem_cons] at hc
    rcases hc with rfl | rfl | rfl | hc
    · exact .inl rfl
    · exact .inr h0
    · exact .inr hq
    · exact .inr (hblt c hc))
  clear hblt hS
  refine wpIn_rangeFunc_ownH rfl (by omega) (gf := 75) (lb := #[.pointer (some ⟨w.heap.size + 1 + 1, 0, none⟩), .pointer (some ⟨w.heap.size + 1 + 1 + 1, 0, none⟩)]) rfl trivial (enters_of Tryd.func75 (by kernel_rfl) rfl)
    (down_stops (3 - 1) _ _ q p t _ hp Hlen.out W hBq hBp hTW hRW HS.out (by simp) (by simp) (fun c hc => by simp [hc]) (by simp)) kpS_t (kpS_b HS.out) (Below.refl _ _) (fun _ => rfl)
    (vI t p q w (w.heap.size + 1)) (fun _ _ _ => False) (vI_own _ _ _ _ _ _ (by omega)) (fun _ _ _ _ _ hs _ _ => hs)
    ⟨⟨⟨_, hx0, World.ownsRow_nil _ _ _ _, trivial⟩, hBp⟩, hB⟩
    (fun x a' _ => a' = { tmps := #[.pointer (some ⟨q, 0, none⟩), .agg #[.int .u32 (ka p), .int .i64 p.length], undef, .pointer (some ⟨w.heap.size, 0, none⟩), .slice none 0 0, .pointer (some ⟨w.heap.size + 1, 0, none⟩), .pointer (some (wayAt t p q x).1), undef, .pointer (some ⟨q, 0, none⟩), .agg #[.int .u32 (ka p), .int .i64 p.length], .func (.func 75) #[] #[.pointer (some ⟨w.heap.size + 1 + 1, 0, none⟩), .pointer (some ⟨w.heap.size + 1 + 1 + 1, 0, none⟩)], .pointer (some (wayAt t p q x).1), undef, undef, undef, undef, undef, undef, undef, undef, undef, undef, undef, undef, undef, undef, undef, undef], defers := [] })
    (fun _ _ _ _ _ _ hs _ _ => hs) ?assign ?body ?done ?stop
  case assign =>
    rintro l pre x W1 K hI hK
    unfold encD
    gi_wp2_with fail
    exact hK _ _ ((KeepsOthers.refl _).from _) (fun _ _ => rfl) hI rfl
  case body =>
    rintro l pre x a' W1 hl' ⟨r, hr⟩ ⟨⟨⟨v, hv, hrow, _⟩, hpb⟩, hB1⟩ rfl hlt
    obtain ⟨hA, hsp, hblk, hbl, b, k, o, lc, rc, hnode, hkp⟩ := way_at HT.out rfl (wayAt_mem t p q x)
    obtain ⟨y, hy⟩ : ∃ y, wayAt t p q x = y := ⟨_, rfl⟩
    rw [hy] at hA hsp hblk hbl hnode ⊢
    obtain ⟨⟨ab, ao, asp⟩, s⟩ := y
    simp only at hA hsp hblk hbl hnode ⊢
    subst hsp hnode
    have hab : ab < w.heap.size := by
      rcases hblk with h | h
      · rw [h]; exact hq
      · exact Hblt.out _ h
    have hA1 := hA.below hab rfl hB1
    have ca := hA1.1
    have n3 := hA1.2.c3
    simp only [TT.ptr] at ca
    have hsn := abv_snoc t p q pre x
    rw [hy] at hsn
    have hal := abv_len pre
    cases o with
    | none =>
      simp only [Option.isSome_none] at n3
      have HI := Lib.hid (show vI t p q w (w.heap.size + 1) pre W1 from ⟨⟨⟨v, hv, hrow, trivial⟩, hpb⟩, hB1⟩)
      have HSn := Lib.hid hsn
      clear hsn hv hrow hB1 hA hA1 hblk hbl hr hTW hRW hB hBq hBp hx0
      gi_wp2_with fail
      refine ⟨(KeepsOthers.refl _).from _, fun _ _ => rfl, ?_⟩
      unfold vI
      rw [HSn.out]
      rw [show abv t p q pre ++ nodeR (.node b k none lc rc) = abv t p q pre by simp [nodeR, TT.rowO]]
      exact HI.out
    | some u =>
      simp only [Option.isSome_some] at n3
      have c0 := hv.cell
      have f0 := hv.frozen
      have HRo := Lib.hid (row_any b k u lc rc)
      have HA1 := Lib.hid hA1
      have HSn := Lib.hid hsn
      have HV := Lib.hid hv
      have HRw := Lib.hid hrow
      have HPb := Lib.hid hpb
      have HB1 := Lib.hid hB1
      clear hsn hv hrow hB1 hA hA1 hblk hbl hr hTW hRW hB hBq hBp hx0
      gi_wp2_with fail
      have hIn1 : (TT.node b k (some u) lc rc).In W1.drew := HA1.out.2.below (Below.refl _ _).drew
      have hbw : w.heap.size + 1 < W1.heap.size := HV.out.lt
      refine wpIn_region_round (n := 0) (by kernel_rfl) (by kernel_rfl) (fun ⟨_, _, h⟩ => h) ?_
      refine wpAny_ready (rs := [0, 1]) (by kernel_rfl) (by simp) (AllReady.cons rfl (fun K hK => ?_) (AllReady.cons rfl (fun K hK => ?_) AllReady.nil))
      · go_simp
        refine hK _ _ ?_
        clear hK K
        refine wpAny_ready (rs := [1]) (by kernel_rfl) (by simp) (AllReady.cons rfl (fun K hK => ?_) AllReady.nil)
        go_simp
        refine hK _ _ ?_
        clear hK K
        refine wpAny_ready (rs := [2]) (by kernel_rfl) (by simp) (AllReady.cons rfl (fun K hK => ?_) AllReady.nil)
        go_simp
        refine (HRo.out _ hIn1).mono ?_
        rintro e w2 ⟨rfl, hb2⟩
        have hb2' : Below W1.heap.size W1 w2 := ⟨hb2.os, hb2.tape, hb2.output, hb2.size, hb2.block⟩
        have c2 : w2.cell? ⟨w.heap.size + 1, 0, none⟩ = some v := (hb2.cell (p := ⟨w.heap.size + 1, 0, none⟩) hbw).trans c0
        have hv2 : Boxed w2 (w.heap.size + 1) 71 v := (hb2.block _ hbw).trans HV.out
        have hB2 : Below w.heap.size w w2 := bthen HB1.out hb2'
        have hrow2 : w2.ownsRow w.heap.size 74 3 v (abv t p q pre).length (rCs (abv t p q pre)) := row_below HRw.out hb2'
        refine hK _ _ ?_
        clear hK K
        refine wpAny_ready (rs := [3]) (by kernel_rfl) (by simp) (AllReady.cons rfl (fun K hK => ?_) AllReady.nil)
        go_simp
        have c3 := (((Below.refl _ w2).alloc (Nat.le_refl _) (.cells #[.int .u32 (ka k), .int .i64 k.length, .int .i64 u] 74)).cell (p := ⟨w.heap.size + 1, 0, none⟩) hv2.lt).trans c2
        refine hK _ _ ?_
        clear hK K
        refine wpAny_ready (rs := [4]) (by kernel_rfl) (by simp) (AllReady.cons rfl (fun K hK => ?_) AllReady.nil)
        refine step_append_lies _ (by rfl) _ _ _ (by rfl) w.heap.size 74 i0 _ 3 24 Tryd.underlying71 hi hz0 hz1 hz2 rfl (by omega) v (abv t p q pre).length (rCs (abv t p q pre)) (by rfl) (hrow2.alloc _) ⟨w2.heap.size, 0, none⟩ 1 1 (rC (k, u)) (by rfl) (by rfl) (cells_three_new _ _ _ _ _) (by simp [rC, Value.oneCell']) (by omega) (by unfold maxLen; omega) (by omega) (by have := hB2.size; simp; omega) (w2.heap.size + 1) (by simp) ?_
        intro g' cap1 w3 hown1 hgrow hat hlt3
        obtain ⟨hv1, hv3, hr3, hk3, hb3⟩ := hv2.appended (by decide) hrow2 hB2.size (by omega) hown1 hgrow
        have c4 := hv1.cell
        have f4 := hv1.frozen
        refine hK _ _ ?_
        clear hK K
        refine wpAny_ready (rs := [5]) (by kernel_rfl) (by simp) (AllReady.cons rfl (fun K hK => ?_) AllReady.nil)
        go_simp
        refine hK _ _ ?_
        clear hK K
        refine wpAny_done (by kernel_rfl) ?_ _
        refine ⟨((KeepsOthers.drew W1).trans ((below_keeps' hb2).trans hk3)).from _, kept_app HSlt.out HSo.out hb2' hrow2 hgrow HV.out.lt HPb.out, ?_⟩
        unfold vI
        rw [HSn.out, show nodeR (.node b k (some u) lc rc) = [(k, u)] from rfl, rCs_app, List.length_append]
        exact ⟨⟨⟨_, hv3, by simpa [rCs] using hr3, trivial⟩, (kept_app HSlt.out HSo.out hb2' hrow2 hgrow HV.out.lt HPb.out _ (List.mem_cons_self ..)).trans HPb.out⟩, hB2.trans hb3⟩
      · go_simp
        refine hK _ _ ?_
        clear hK K
        refine wpAny_ready (rs := [0, 2]) (by kernel_rfl) (by simp) (AllReady.cons rfl (fun K hK => ?_) (AllReady.cons rfl (fun K hK => ?_) AllReady.nil))
        · go_simp
          refine hK _ _ ?_
          clear hK K
          refine wpAny_ready (rs := [2]) (by kernel_rfl) (by simp) (AllReady.cons rfl (fun K hK => ?_) AllReady.nil)
          go_simp
          refine (HRo.out _ hIn1).mono ?_
          rintro e w2 ⟨rfl, hb2⟩
          have hb2' : Below W1.heap.size W1 w2 := ⟨hb2.os, hb2.tape, hb2.output, hb2.size, hb2.block⟩
          have c2 : w2.cell? ⟨w.heap.size + 1, 0, none⟩ = some v := (hb2.cell (p := ⟨w.heap.size + 1, 0, none⟩) hbw).trans c0
          have hv2 : Boxed w2 (w.heap.size + 1) 71 v := (hb2.block _ hbw).trans HV.out
          have hB2 : Below w.heap.size w w2 := bthen HB1.out hb2'
          have hrow2 : w2.ownsRow w.heap.size 74 3 v (abv t p q pre).length (rCs (abv t p q pre)) := row_below HRw.out hb2'
          refine hK _ _ ?_
          clear hK K
          refine wpAny_ready (rs := [3]) (by kernel_rfl) (by simp) (AllReady.cons rfl (fun K hK => ?_) AllReady.nil)
          go_simp
          have c3 := (((Below.refl _ w2).alloc (Nat.le_refl _) (.cells #[.int .u32 (ka k), .int .i64 k.length, .int .i64 u] 74)).cell (p := ⟨w.heap.size + 1, 0, none⟩) hv2.lt).trans c2
          refine hK _ _ ?_
          clear hK K
          refine wpAny_ready (rs := [4]) (by kernel_rfl) (by simp) (AllReady.cons rfl (fun K hK => ?_) AllReady.nil)
          refine step_append_lies _ (by rfl) _ _ _ (by rfl) w.heap.size 74 i0 _ 3 24 Tryd.underlying71 hi hz0 hz1 hz2 rfl (by omega) v (abv t p q pre).length (rCs (abv t p q pre)) (by rfl) (hrow2.alloc _) ⟨w2.heap.size, 0, none⟩ 1 1 (rC (k, u)) (by rfl) (by rfl) (cells_three_new _ _ _ _ _) (by simp [rC, Value.oneCell']) (by omega) (by unfold maxLen; omega) (by omega) (by have := hB2.size; simp; omega) (w2.heap.size + 1) (by simp) ?_
          intro g' cap1 w3 hown1 hgrow hat hlt3
          obtain ⟨hv1, hv3, hr3, hk3, hb3⟩ := hv2.appended (by decide) hrow2 hB2.size (by omega) hown1 hgrow
          have c4 := hv1.cell
          have f4 := hv1.frozen
          refine hK _ _ ?_
          clear hK K
          refine wpAny_ready (rs := [5]) (by kernel_rfl) (by simp) (AllReady.cons rfl (fun K hK => ?_) AllReady.nil)
          go_simp
          refine hK _ _ ?_
          clear hK K
          refine wpAny_done (by kernel_rfl) ?_ _
          refine ⟨((KeepsOthers.drew W1).trans ((below_keeps' hb2).trans hk3)).from _, kept_app HSlt.out HSo.out hb2' hrow2 hgrow HV.out.lt HPb.out, ?_⟩
          unfold vI
          rw [HSn.out, show nodeR (.node b k (some u) lc rc) = [(k, u)] from rfl, rCs_app, List.length_append]
          exact ⟨⟨⟨_, hv3, by simpa [rCs] using hr3, trivial⟩, (kept_app HSlt.out HSo.out hb2' hrow2 hgrow HV.out.lt HPb.out _ (List.mem_cons_self ..)).trans HPb.out⟩, hB2.trans hb3⟩
        · go_simp
          refine (HRo.out _ hIn1).mono ?_
          rintro e w2 ⟨rfl, hb2⟩
          have hb2' : Below W1.heap.size W1 w2 := ⟨hb2.os, hb2.tape, hb2.output, hb2.size, hb2.block⟩
          have c2 : w2.cell? ⟨w.heap.size + 1, 0, none⟩ = some v := (hb2.cell (p := ⟨w.heap.size + 1, 0, none⟩) hbw).trans c0
          have hv2 : Boxed w2 (w.heap.size + 1) 71 v := (hb2.block _ hbw).trans HV.out
          have hB2 : Below w.heap.size w w2 := bthen HB1.out hb2'
          have hrow2 : w2.ownsRow w.heap.size 74 3 v (abv t p q pre).length (rCs (abv t p q pre)) := row_below HRw.out hb2'
          refine hK _ _ ?_
          clear hK K
          refine wpAny_ready (rs := [0, 3]) (by kernel_rfl) (by simp) (AllReady.cons rfl (fun K hK => ?_) (AllReady.cons rfl (fun K hK => ?_) AllReady.nil))
          · go_simp
            refine hK _ _ ?_
            clear hK K
            refine wpAny_ready (rs := [3]) (by kernel_rfl) (by simp) (AllReady.cons rfl (fun K hK => ?_) AllReady.nil)
            go_simp
            have c3 := (((Below.refl _ w2).alloc (Nat.le_refl _) (.cells #[.int .u32 (ka k), .int .i64 k.length, .int .i64 u] 74)).cell (p := ⟨w.heap.size + 1, 0, none⟩) hv2.lt).trans c2
            refine hK _ _ ?_
            clear hK K
            refine wpAny_ready (rs := [4]) (by kernel_rfl) (by simp) (AllReady.cons rfl (fun K hK => ?_) AllReady.nil)
            refine step_append_lies _ (by rfl) _ _ _ (by rfl) w.heap.size 74 i0 _ 3 24 Tryd.underlying71 hi hz0 hz1 hz2 rfl (by omega) v (abv t p q pre).length (rCs (abv t p q pre)) (by rfl) (hrow2.alloc _) ⟨w2.heap.size, 0, none⟩ 1 1 (rC (k, u)) (by rfl) (by rfl) (cells_three_new _ _ _ _ _) (by simp [rC, Value.oneCell']) (by omega) (by unfold maxLen; omega) (by omega) (by have := hB2.size; simp; omega) (w2.heap.size + 1) (by simp) ?_
            intro g' cap1 w3 hown1 hgrow hat hlt3
            obtain ⟨hv1, hv3, hr3, hk3, hb3⟩ := hv2.appended (by decide) hrow2 hB2.size (by omega) hown1 hgrow
            have c4 := hv1.cell
            have f4 := hv1.frozen
            refine hK _ _ ?_
            clear hK K
            refine wpAny_ready (rs := [5]) (by kernel_rfl) (by simp) (AllReady.cons rfl (fun K hK => ?_) AllReady.nil)
            go_simp
            refine hK _ _ ?_
            clear hK K
            refine wpAny_done (by kernel_rfl) ?_ _
            refine ⟨((KeepsOthers.drew W1).trans ((below_keeps' hb2).trans hk3)).from _, kept_app HSlt.out HSo.out hb2' hrow2 hgrow HV.out.lt HPb.out, ?_⟩
            unfold vI
            rw [HSn.out, show nodeR (.node b k (some u) lc rc) = [(k, u)] from rfl, rCs_app, List.length_append]
            exact ⟨⟨⟨_, hv3, by simpa [rCs] using hr3, trivial⟩, (kept_app HSlt.out HSo.out hb2' hrow2 hgrow HV.out.lt HPb.out _ (List.mem_cons_self ..)).trans HPb.out⟩, hB2.trans hb3⟩
          · go_simp
            have c3 := (((Below.refl _ w2).alloc (Nat.le_refl _) (.cells #[.int .u32 (ka k), .int .i64 k.length, .int .i64 u] 74)).cell (p := ⟨w.heap.size + 1, 0, none⟩) hv2.lt).trans c2
            refine hK _ _ ?_
            clear hK K
            refine wpAny_ready (rs := [0]) (by kernel_rfl) (by simp) (AllReady.cons rfl (fun K hK => ?_) AllReady.nil)
            go_simp
            refine hK _ _ ?_
            clear hK K
            refine wpAny_ready (rs := [4]) (by kernel_rfl) (by simp) (AllReady.cons rfl (fun K hK => ?_) AllReady.nil)
            refine step_append_lies _ (by rfl) _ _ _ (by rfl) w.heap.size 74 i0 _ 3 24 Tryd.underlying71 hi hz0 hz1 hz2 rfl (by omega) v (abv t p q pre).length (rCs (abv t p q pre)) (by rfl) (hrow2.alloc _) ⟨w2.heap.size, 0, none⟩ 1 1 (rC (k, u)) (by rfl) (by rfl) (cells_three_new _ _ _ _ _) (by simp [rC, Value.oneCell']) (by omega) (by unfold maxLen; omega) (by omega) (by have := hB2.size; simp; omega) (w2.heap.size + 1) (by simp) ?_
            intro g' cap1 w3 hown1 hgrow hat hlt3
            obtain ⟨hv1, hv3, hr3, hk3, hb3⟩ := hv2.appended (by decide) hrow2 hB2.size (by omega) hown1 hgrow
            have c4 := hv1.cell
            have f4 := hv1.frozen
            refine hK _ _ ?_
            clear hK K
            refine wpAny_ready (rs := [5]) (by kernel_rfl) (by simp) (AllReady.cons rfl (fun K hK => ?_) AllReady.nil)
            go_simp
            refine hK _ _ ?_
            clear hK K
            refine wpAny_done (by kernel_rfl) ?_ _
            refine ⟨((KeepsOthers.drew W1).trans ((below_keeps' hb2).trans hk3)).from _, kept_app HSlt.out HSo.out hb2' hrow2 hgrow HV.out.lt HPb.out, ?_⟩
            unfold vI
            rw [HSn.out, show nodeR (.node b k (some u) lc rc) = [(k, u)] from rfl, rCs_app, List.length_append]
            exact ⟨⟨⟨_, hv3, by simpa [rCs] using hr3, trivial⟩, (kept_app HSlt.out HSo.out hb2' hrow2 hgrow HV.out.lt HPb.out _ (List.mem_cons_self ..)).trans HPb.out⟩, hB2.trans hb3⟩
  case done =>
    rintro D xs W1 hD rfl ⟨⟨⟨v, hv, hrow, _⟩, hpb⟩, hB1⟩ hK
    have c0 := hv.cell
    rw [abv_all] at hrow
    go_wp2_with fail
    refine ⟨by simp, .inl ⟨_, _, rfl, run_takeDeferred hK, ?_⟩⟩
    exact ⟨_, results_tmp rfl _ _ _, v, rfl, ownsRow_putObj hrow _ hK rfl, hB1.trans (belowK_b (w := w) (Nat.le_refl _) W1 D _ _ (by omega) hK rfl rfl)⟩
  case stop =>
    rintro D c pre W1 _ _ h _
    exact h.elim
end Go.Proofs.YtbacahoihkpkpaaDoor
