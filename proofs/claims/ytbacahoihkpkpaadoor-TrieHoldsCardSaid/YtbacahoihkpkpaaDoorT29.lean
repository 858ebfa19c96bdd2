/- Merged: T26 T27 T28 T29. -/
import Derived.Test.YtbacahoihkpkpaaDoorT25
import Derived.Test.YtbacahoihkpkpaaDoorQ4
import Derived.Test.YtbacahoihkpkpaaDoorT16
import Derived.Test.YtbacahoihkpkpaaDoorT10
/- Plain: what the rows fix; the trie of works. -/
namespace Go.Proofs.YtbacahoihkpkpaaDoor
open Go.RowKit Go.Shelf Go.Maps

theorem keys_of_rows {t t' : TT} (h : t.WF) (h' : t'.WF) (e : t.rows = t'.rows) : t.keys = t'.keys :=
  ordK_ext h.ord h'.ord fun x => by rw [TT.keys_lcp h, TT.keys_lcp h', e]
theorem sz_of_rows {t t' : TT} (h : t.WF) (h' : t'.WF) (e : t.rows = t'.rows) : t.sz = t'.sz := by
  rw [← TT.keys_len, ← TT.keys_len, keys_of_rows h h' e]
theorem dp_le_of_keys {t t' : TT} (h : t.WF) (h' : t'.WF) (e : t.keys = t'.keys) : t.dp ≤ t'.dp := by
  cases hn : t.isN with
  | true => rw [TT.isN_iff] at hn; subst hn; simp [TT.dp]
  | false =>
    obtain ⟨x, hx, ex⟩ := TT.anc_ex h hn
    rw [← ex, show t.anc x = t'.anc x by unfold TT.anc; rw [e]]
    exact TT.anc_le h' (e ▸ hx)
theorem dp_of_rows {t t' : TT} (h : t.WF) (h' : t'.WF) (e : t.rows = t'.rows) : t.dp = t'.dp := by
  have hk := keys_of_rows h h' e
  have := dp_le_of_keys h h' hk
  have := dp_le_of_keys h' h hk.symm
  omega
theorem rows_ext {t t' : TT} (h : t.WF) (h' : t'.WF) (hm : ∀ x u, (x, u) ∈ t.rows ↔ (x, u) ∈ t'.rows) : t.rows = t'.rows :=
  ordR_ext h.rows h'.rows fun ⟨x, u⟩ => hm x u

def k8 : Key := [false, false, false, false, true, false, true, false]
def k16 : Key := k8 ++ [false, false, false, false, false, false, false, true]
def k16b : Key := k8 ++ [false, false, false, false, false, false, true, false]
def trie3 : TT := .node 0 k8 (some 1) (.node 0 (k8 ++ [false, false, false, false, false, false]) none (.node 0 k16 (some 2) .nil .nil) (.node 0 k16b (some 3) .nil .nil)) .nil
def trie2 : TT := .node 0 k8 (some 1) (.node 0 k16b (some 3) .nil .nil) .nil
theorem ka_k8 : ka k8 = 167772160 := by decide
theorem ka_k16 : ka k16 = 167837696 := by decide
theorem ka_k16b : ka k16b = 167903232 := by decide
theorem wf3 : trie3.WF := by
  unfold trie3
  refine ⟨by decide, by decide, by decide, by decide, ⟨by decide, by decide, by decide, by decide, ⟨by decide, by decide, by decide, by decide, trivial, trivial⟩, ⟨by decide, by decide, by decide, by decide, trivial, trivial⟩⟩, trivial⟩
theorem wf2 : trie2.WF := by
  unfold trie2
  refine ⟨by decide, by decide, by decide, by decide, ⟨by decide, by decide, by decide, by decide, trivial, trivial⟩, trivial⟩
theorem rows3 : trie3.rows = [(k8, 1), (k16, 2), (k16b, 3)] := rfl
theorem rows2 : trie2.rows = [(k8, 1), (k16b, 3)] := rfl
theorem n1 : k8 ≠ k16 := by decide
theorem n2 : k8 ≠ k16b := by decide
theorem n3 : k16 ≠ k16b := by decide
theorem works_rows_3 {t2 t3 : TT} (h : t3.WF) (h2 : t2.rows = [(k8, 1), (k16, 2)]) (p3 : PutR t2 t3 k16b 3) : t3.rows = [(k8, 1), (k16, 2), (k16b, 3)] := by
  rw [← rows3]
  refine rows_ext h wf3 fun x u => ?_
  rw [p3 x u, h2, rows3]
  simp only [List.mem_cons, List.not_mem_nil, or_false, Prod.mk.injEq]
  constructor
  · rintro (⟨rfl, rfl⟩ | ⟨_, ⟨rfl, rfl⟩ | ⟨rfl, rfl⟩⟩)
    · exact .inr (.inr ⟨rfl, rfl⟩)
    · exact .inl ⟨rfl, rfl⟩
    · exact .inr (.inl ⟨rfl, rfl⟩)
  · rintro (⟨rfl, rfl⟩ | ⟨rfl, rfl⟩ | ⟨rfl, rfl⟩)
    · exact .inr ⟨n2, .inl ⟨rfl, rfl⟩⟩
    · exact .inr ⟨n3, .inr ⟨rfl, rfl⟩⟩
    · exact .inl ⟨rfl, rfl⟩
theorem works_rows2 {t3 t4 : TT} (h : t4.WF) (h3 : t3.rows = [(k8, 1), (k16, 2), (k16b, 3)]) (p : TakeR t3 t4 k16) : t4.rows = [(k8, 1), (k16b, 3)] := by
  rw [← rows2]
  refine rows_ext h wf2 fun x u => ?_
  rw [p x u, h3, rows2]
  simp only [List.mem_cons, List.not_mem_nil, or_false, Prod.mk.injEq]
  constructor
  · rintro ⟨hne, ⟨rfl, rfl⟩ | ⟨rfl, rfl⟩ | ⟨rfl, rfl⟩⟩
    · exact .inl ⟨rfl, rfl⟩
    · exact absurd rfl hne
    · exact .inr ⟨rfl, rfl⟩
  · rintro (⟨rfl, rfl⟩ | ⟨rfl, rfl⟩)
    · exact ⟨n1, .inl ⟨rfl, rfl⟩⟩
    · exact ⟨n3.symm, .inr (.inr ⟨rfl, rfl⟩)⟩
theorem get_none {t : TT} (h : t.WF) {p : Key} (hn : ∀ u, (p, u) ∉ t.rows) : t.get p = none := by
  cases hg : t.get p with
  | none => rfl
  | some u => exact absurd ((TT.get_iff h p u).1 hg) (hn u)
def trie1 : TT := .node 0 k8 (some 1) .nil .nil
def trie12 : TT := .node 0 k8 (some 1) (.node 0 k16 (some 2) .nil .nil) .nil
theorem wf1 : trie1.WF := by
  unfold trie1
  exact ⟨by decide, by decide, by decide, by decide, trivial, trivial⟩
theorem wf12 : trie12.WF := by
  unfold trie12
  exact ⟨by decide, by decide, by decide, by decide, ⟨by decide, by decide, by decide, by decide, trivial, trivial⟩, trivial⟩
theorem works_rows_1 {t1 : TT} (h : t1.WF) (p1 : PutR .nil t1 k8 1) : t1.rows = [(k8, 1)] := by
  rw [show [(k8, (1 : Int))] = trie1.rows from rfl]
  refine rows_ext h wf1 fun x u => ?_
  rw [p1 x u]
  simp [TT.rows, trie1, TT.rowO]
theorem works_rows_12 {t1 t2 : TT} (h : t2.WF) (h1 : t1.rows = [(k8, 1)]) (p2 : PutR t1 t2 k16 2) : t2.rows = [(k8, 1), (k16, 2)] := by
  rw [show [(k8, (1 : Int)), (k16, 2)] = trie12.rows from rfl]
  refine rows_ext h wf12 fun x u => ?_
  rw [p2 x u, h1]
  simp only [TT.rows, trie12, TT.rowO, List.mem_cons, List.mem_append, List.not_mem_nil, or_false, Prod.mk.injEq]
  constructor
  · rintro (⟨rfl, rfl⟩ | ⟨_, rfl, rfl⟩)
    · exact .inr ⟨rfl, rfl⟩
    · exact .inl ⟨rfl, rfl⟩
  · rintro (⟨rfl, rfl⟩ | ⟨rfl, rfl⟩)
    · exact .inr ⟨n1, rfl, rfl⟩
    · exact .inl ⟨rfl, rfl⟩
theorem putR_len {t t' : TT} (h : t.WF) (h' : t'.WF) {p : Key} {v : Int} (hp : p.length ≤ 32) (hr : PutR t t' p v) : t'.rows.length ≤ t.rows.length + 1 := by
  obtain ⟨h1, _, h3⟩ := TT.put_ok h (v := v) hp 0 0
  have e : t'.rows = (t.put 0 0 p v).rows := rows_ext h' h1 fun x u => by rw [hr x u]; exact (h3 x u).symm
  rw [e]
  cases hg : t.get p with
  | none => rw [put_len_new h hp hg]; exact Nat.le_refl _
  | some u => rw [put_len_old h hp hg]; omega
def a1 : Key := k8 ++ [false, false, false, false, false, false, false, true, false, false, false, false, false, false, true, false, false, false, false, false, false, false, true, true]
def a2 : Key := k8 ++ [false, false, false, false, true, false, false, true, false, false, false, false, true, false, false, true, false, false, false, false, true, false, false, true]
def a3 : Key := [false, false, false, false, true, false, true, true] ++ List.replicate 24 false
theorem ka_a1 : ka a1 = 167838211 := by decide
theorem ka_a2 : ka a2 = 168364297 := by decide
theorem ka_a3 : ka a3 = 184549376 := by decide
theorem works_f1 {t : TT} (h : t.WF) (e : t.rows = [(k8, 1), (k16, 2), (k16b, 3)]) : (t.above a1).getLast? = some (k16, 2) ∧ (t.above a2).getLast? = some (k8, 1) ∧ (t.above a3).getLast? = none := by
  rw [TT.above_eq h, TT.above_eq h, TT.above_eq h, e]
  decide
theorem works_f2 {t : TT} (h : t.WF) (e : t.rows = [(k8, 1), (k16b, 3)]) : (t.above a1).getLast? = some (k8, 1) := by
  rw [TT.above_eq h, e]
  decide
end Go.Proofs.YtbacahoihkpkpaaDoor
/- works: the walk. -/
namespace Go.Proofs.YtbacahoihkpkpaaDoor
open Go.RowKit Go.Shelf Go.Maps

set_option maxHeartbeats 400000 in
theorem num_any (n : Int) (w : World) : Calls Tryd.prog 17 #[.int .i64 n] w fun e w' => e = .returned (.int .i64 n) ∧ w = w' := by
  go_enter Tryd.func17, Tryd.ntmps17
  go_wp2
  go_ret
  exact ⟨rfl, rfl⟩
set_option maxHeartbeats 400000 in
theorem of_any (a n : Int) (w : World) : Calls Tryd.prog 33 #[.int .u32 a, .int .i64 n] w fun e w' => e = .returned (.agg #[.int .u32 a, .int .i64 n]) ∧ Below w.heap.size w w' := by
  go_enter Tryd.func33, Tryd.ntmps33
  go_wp2
  refine bodyPost_ret (v := .agg #[.int .u32 a, .int .i64 n]) (by simp [results, Tryd.results33, go_sem]) rfl ⟨rfl, ?_⟩
  exact (Below.refl _ w).alloc (Nat.le_refl _) _

/-- a trie of one's own -/
structure TW (w0 W : World) (q : Nat) (t : TT) : Prop where
  st : TrS W q t
  rel : RelsAt W
  bl : Below w0.heap.size w0 W
  ge : ∀ c ∈ q :: t.blocks, w0.heap.size ≤ c
theorem TW.below {w0 W W' : World} {q : Nat} {t : TT} (h : TW w0 W q t) (hb : Below W.heap.size W W') : TW w0 W' q t :=
  ⟨h.st.below hb, h.rel.below hb, bthen h.bl hb, h.ge⟩
theorem TW.went {w0 W W' : World} {q : Nat} {t t' : TT} (h : TW w0 W q t) (g : Went W W' q t t') : TW w0 W' q t' := by
  refine ⟨g.st, h.rel.kb (h.st.zero h.rel) g.kb, ?_, ?_⟩
  · have hk := g.kb
    exact ⟨hk.os.trans h.bl.os, hk.tape.trans h.bl.tape, hk.output.trans h.bl.output, Nat.le_trans h.bl.size hk.size, fun i hi => (hk.block i (Nat.lt_of_lt_of_le hi h.bl.size) (fun hm => by have := h.ge i hm; omega)).trans (h.bl.block i hi)⟩
  · intro c hc
    rcases List.mem_cons.1 hc with rfl | hc
    · exact h.ge _ (by simp)
    · rcases g.new c hc with h1 | h1
      · exact h.ge _ (List.mem_cons_of_mem _ h1)
      · exact Nat.le_trans h.bl.size h1
theorem TW.new (w : World) (hR : RelsAt w) : TW w (w.alloc (.cells #[.pointer none, .int .i64 0, .bool true] 84)) w.heap.size .nil :=
  have b := (Below.refl _ w).alloc (Nat.le_refl _) (.cells #[.pointer none, .int .i64 0, .bool true] 84)
  ⟨new_st w, hR.below b, b, by simp [TT.blocks]⟩

theorem PBox.notin {W : World} {B q : Nat} {a n : Int} {t : TT} (h : PBox W B a n) (hT : TrS W q t) : B ∉ q :: t.blocks := by
  have hb : W.heap[B]? = _ := h
  intro hm
  rcases List.mem_cons.1 hm with e | hm
  · rw [e, hT.box] at hb
    simp at hb
  · obtain ⟨k, o, l, r, hb2⟩ := hT.here.block hm
    rw [hb2] at hb
    simp [nodeO] at hb
theorem PBox.went {W W' : World} {B q : Nat} {a n : Int} {t t' : TT} (h : PBox W B a n) (hT : TrS W q t) (g : Went W W' q t t') : PBox W' B a n :=
  (g.kb.block B h.lt (h.notin hT)).trans h
theorem putC (w0 : World) (q : Nat) (t : TT) (p : Key) (a n v : Int) (ha : ka p = a) (hn : (p.length : Int) = n) (w : World) (h : TW w0 w q t) (hp : p.length ≤ 32) (hg : t.get p = none) (hL : t.rows.length < 512) :
    Calls Tryd.prog 14 #[.pointer (some ⟨q, 0, none⟩), .agg #[.int .u32 a, .int .i64 n], .int .i64 v] w fun e w' => e = .returned (.tuple #[.int .i64 0, .bool false, .int .i64 0]) ∧ ∃ t', TW w0 w' q t' ∧ PutR t t' p v ∧ (∀ B a n, PBox w B a n → PBox w' B a n) := by
  subst ha hn
  exact (Put_new q t p v w h.st h.rel hp hg hL).mono fun e w' ⟨h1, t', h2, h3⟩ => ⟨h1, t', h.went h2, h3, fun B a n hb => hb.went h.st h2⟩
theorem takeC (w0 : World) (q : Nat) (t : TT) (p : Key) (a n u : Int) (ha : ka p = a) (hn : (p.length : Int) = n) (w : World) (h : TW w0 w q t) (hp : p.length ≤ 32) (hg : t.get p = some u) (hL : t.rows.length < 513) :
    Calls Tryd.prog 19 #[.pointer (some ⟨q, 0, none⟩), .agg #[.int .u32 a, .int .i64 n]] w fun e w' => e = .returned (.tuple #[.int .i64 u, .bool true, .int .i64 0]) ∧ ∃ t', TW w0 w' q t' ∧ TakeR t t' p ∧ (∀ B a n, PBox w B a n → PBox w' B a n) := by
  subst ha hn
  exact (Take_yes q t p u w h.st h.rel hp hg (by omega)).mono fun e w' ⟨h1, t', h2, h3⟩ => ⟨h1, t', h.went h2, h3, fun B a n hb => hb.went h.st h2⟩
theorem findC (w0 : World) (q : Nat) (t : TT) (p : Key) (a : Int) (o : Option (Key × Int)) (ha : ka p = a) (w : World) (h : TW w0 w q t) (hp : p.length = 32) (ho : (t.above p).getLast? = o) :
    Calls Tryd.prog 11 #[.pointer (some ⟨q, 0, none⟩), .int .u32 a] w fun e w' => e = .returned (findV o) ∧ TW w0 w' q t ∧ Below w.heap.size w w' := by
  subst ha ho
  exact (Find_any q t p w h.st h.rel hp).mono fun e w' ⟨h1, h2⟩ => ⟨h1, h.below h2, h2⟩
theorem findS (w0 : World) (q : Nat) (t : TT) (p : Key) (a : Int) (y : Key) (ya yn u : Int) (ha : ka p = a) (hy : ka y = ya) (hn : (y.length : Int) = yn) (w : World) (h : TW w0 w q t) (hp : p.length = 32) (ho : (t.above p).getLast? = some (y, u)) :
    Calls Tryd.prog 11 #[.pointer (some ⟨q, 0, none⟩), .int .u32 a] w fun e w' => e = .returned (.tuple #[.agg #[.int .u32 ya, .int .i64 yn], .int .i64 u, .bool true]) ∧ TW w0 w' q t ∧ Below w.heap.size w w' := by
  subst hy hn
  exact findC w0 q t p a _ ha w h hp ho
theorem findN (w0 : World) (q : Nat) (t : TT) (p : Key) (a : Int) (ha : ka p = a) (w : World) (h : TW w0 w q t) (hp : p.length = 32) (ho : (t.above p).getLast? = none) :
    Calls Tryd.prog 11 #[.pointer (some ⟨q, 0, none⟩), .int .u32 a] w fun e w' => e = .returned (.tuple #[.agg #[.int .u32 0, .int .i64 0], .int .i64 0, .bool false]) ∧ TW w0 w' q t ∧ Below w.heap.size w w' :=
  findC w0 q t p a _ ha w h hp ho
theorem PBox.new' (W W' : World) (a n : Int) (h : Below (W.heap.size + 1) (W.alloc (.cells #[.int .u32 a, .int .i64 n] 26)) W') : PBox W' W.heap.size a n :=
  (h.block _ (by omega)).trans (PBox.new W a n)

set_option maxRecDepth 100000 in
set_option maxHeartbeats 8000000 in
theorem works_any (w : World) (hR : RelsAt w) : Calls Tryd.prog 9 #[] w fun e w' => e = .returned (.bool true) ∧ Below w.heap.size w w' := by
  have HT0 := Lib.hid (TW.new w hR)
  clear hR
  go_enter Tryd.func9, Tryd.ntmps9
  have C0 := Lib.hid (fun W h => putC w w.heap.size .nil k8 167772160 8 1 ka_k8 (by decide) W h (by decide) rfl (by simp [TT.rows]))
  go_upto_region 3 with (first
    | (go_at_call 18; with_reducible refine (New_any _).mono ?_; rintro e w1 ⟨rfl, rfl⟩)
    | (go_at_call 33; with_reducible refine (of_any _ _ _).mono ?_; rintro e w1 ⟨rfl, hb⟩; have HT1 := Lib.hid (HT0.out.below hb); clear hb)
    | (go_at_call 14; with_reducible refine (C0.out _ HT1.out).mono ?_; rintro e w2 ⟨rfl, t1, hT, hp, _⟩; have HP1 := Lib.hid (works_rows_1 hT.st.wf hp); have HT2 := Lib.hid hT; clear hT hp)
    | fail)
  have C1 := Lib.hid (fun W h => putC w w.heap.size t1 k16 167837696 16 2 ka_k16 (by decide) W h (by decide) (get_none HT2.out.st.wf (by rw [HP1.out]; intro u hm; simp [n1.symm] at hm)) (by rw [HP1.out]; decide))
  go_upto_region 4 with (first
    | (go_at_call 33; with_reducible refine (of_any _ _ _).mono ?_; rintro e w3 ⟨rfl, hb⟩; have HT3 := Lib.hid (HT2.out.below hb); clear hb)
    | (go_at_call 14; with_reducible refine (C1.out _ HT3.out).mono ?_; rintro e w4 ⟨rfl, t2, hT, hp, _⟩; have HP2 := Lib.hid (works_rows_12 hT.st.wf HP1.out hp); have HT4 := Lib.hid hT; clear hT hp)
    | fail)
  have C2 := Lib.hid (fun W h => putC w w.heap.size t2 k16b 167903232 16 3 ka_k16b (by decide) W h (by decide) (get_none HT4.out.st.wf (by rw [HP2.out]; intro u hm; simp [n2.symm, n3.symm] at hm)) (by rw [HP2.out]; decide))
  go_upto_region 5 with (first
    | (go_at_call 33; with_reducible refine (of_any _ _ _).mono ?_; rintro e w5 ⟨rfl, hb⟩; have HT5 := Lib.hid (HT4.out.below hb); clear hb)
    | (go_at_call 14; with_reducible refine (C2.out _ HT5.out).mono ?_; rintro e w6 ⟨rfl, t3, hT, hp, _⟩; have HP3 := Lib.hid (works_rows_3 hT.st.wf HP2.out hp); have HT6 := Lib.hid hT; clear hT hp)
    | fail)
  have hsz : t3.sz = 4 := sz_of_rows HT6.out.st.wf wf3 HP3.out
  have hdp : t3.dp = 3 := dp_of_rows HT6.out.st.wf wf3 HP3.out
  have D0 := Lib.hid (Nodes_any _ t3 w6 HT6.out.st (by omega))
  rw [hsz] at D0
  have D1 := Lib.hid (fun W h => Depth_any w.heap.size t3 W h (by omega))
  rw [hdp] at D1
  clear hsz hdp C0 C1 C2
  go_upto_region 7 with (first
    | (go_at_call 17; with_reducible refine (num_any _ _).mono ?_; rintro e w' ⟨rfl, rfl⟩)
    | (go_at_call 24; with_reducible refine D0.out.mono ?_; rintro e w7 ⟨rfl, hb⟩; have HT7 := Lib.hid (HT6.out.below hb); clear hb)
    | (go_at_call 25; with_reducible refine (D1.out _ HT7.out.st).mono ?_; rintro e w8 ⟨rfl, hb⟩; have HT8 := Lib.hid (HT7.out.below hb); clear hb)
    | fail)
  have F1 := (works_f1 HT6.out.st.wf HP3.out)
  have D2 := Lib.hid (fun W h => findS w w.heap.size t3 a1 167838211 k16 167837696 16 2 ka_a1 ka_k16 (by decide) W h rfl F1.1)
  have D3 := Lib.hid (fun W h => findS w w.heap.size t3 a2 168364297 k8 167772160 8 1 ka_a2 ka_k8 (by decide) W h rfl F1.2.1)
  have D4 := Lib.hid (fun W h => findN w w.heap.size t3 a3 184549376 ka_a3 W h rfl F1.2.2)
  clear F1
  go_upto_region 8 with (first
    | (go_at_call 11; with_reducible refine (D2.out _ HT8.out).mono ?_; rintro e w9 ⟨rfl, hT, hb⟩; have HT9 := Lib.hid hT; clear hT hb)
    | fail)
  have HPa := Lib.hid (PBox.new w9 167837696 16)
  have HTa := Lib.hid (HT9.out.below ((Below.refl _ w9).alloc (Nat.le_refl _) (Obj.cells #[.int .u32 167837696, .int .i64 16] 26)))
  generalize (w9.alloc (Obj.cells #[.int .u32 167837696, .int .i64 16] 26)) = X9 at *
  generalize w9.heap.size = B9 at *
  go_upto_region 9 with (first
    | (go_at_call 11; with_reducible refine (D3.out _ HTa.out).mono ?_; rintro e w10 ⟨rfl, hT, hb⟩; have HT10 := Lib.hid hT; have HPb := Lib.hid (HPa.out.below hb); clear hT hb)
    | fail)
  have HQb := Lib.hid (PBox.new w10 167772160 8)
  have HTb := Lib.hid (HT10.out.below ((Below.refl _ w10).alloc (Nat.le_refl _) (Obj.cells #[.int .u32 167772160, .int .i64 8] 26)))
  have HPc := Lib.hid (HPb.out.alloc (Obj.cells #[.int .u32 167772160, .int .i64 8] 26))
  generalize (w10.alloc (Obj.cells #[.int .u32 167772160, .int .i64 8] 26)) = X10 at *
  generalize w10.heap.size = B10 at *
  go_upto_region 10 with (first
    | (go_at_call 11; with_reducible refine (D4.out _ HTb.out).mono ?_; rintro e w11 ⟨rfl, hT, hb⟩; have HT11 := Lib.hid hT; have HPd := Lib.hid (HPc.out.below hb); have HQd := Lib.hid (HQb.out.below hb); clear hT hb)
    | fail)
  have HTc := Lib.hid (HT11.out.below ((Below.refl _ w11).alloc (Nat.le_refl _) (Obj.cells #[.int .u32 0, .int .i64 0] 26)))
  have HPe := Lib.hid (HPd.out.alloc (Obj.cells #[.int .u32 0, .int .i64 0] 26))
  have HQe := Lib.hid (HQd.out.alloc (Obj.cells #[.int .u32 0, .int .i64 0] 26))
  generalize (w11.alloc (Obj.cells #[.int .u32 0, .int .i64 0] 26)) = X11 at *
  have C3 := Lib.hid (fun W h => takeC w w.heap.size t3 k16 167837696 16 2 ka_k16 (by decide) W h (by decide) ((TT.get_iff HT11.out.st.wf _ _).2 (by rw [HP3.out]; simp)) (by rw [HP3.out]; decide))
  go_upto_region 11 with (first
    | (go_at_call 33; with_reducible refine (of_any _ _ _).mono ?_; rintro e w12 ⟨rfl, hb⟩; have HT12 := Lib.hid (HTc.out.below hb); have HPf := Lib.hid (HPe.out.below hb); have HQf := Lib.hid (HQe.out.below hb); clear hb)
    | (go_at_call 19; with_reducible refine (C3.out _ HT12.out).mono ?_; rintro e w13 ⟨rfl, t4, hT, hp, hbx⟩; have HP4 := Lib.hid (works_rows2 hT.st.wf HP3.out hp); have HT13 := Lib.hid hT; have HPg := Lib.hid (hbx _ _ _ HPf.out); have HQg := Lib.hid (hbx _ _ _ HQf.out); clear hT hp hbx)
    | fail)
  have D5 := Lib.hid (fun W h => findS w w.heap.size t4 a1 167838211 k8 167772160 8 1 ka_a1 ka_k8 (by decide) W h rfl (works_f2 HT13.out.st.wf HP4.out))
  have hsz : t4.sz = 2 := sz_of_rows HT13.out.st.wf wf2 HP4.out
  go_upto_region 12 with (first
    | (go_at_call 11; with_reducible refine (D5.out _ HT13.out).mono ?_; rintro e w14 ⟨rfl, hT, hb⟩; have HT14 := Lib.hid hT; have HPh := Lib.hid (HPg.out.below hb); have HQh := Lib.hid (HQg.out.below hb); clear hT hb)
    | fail)
  have HRi := Lib.hid (PBox.new w14 167772160 8)
  have HTi := Lib.hid (HT14.out.below ((Below.refl _ w14).alloc (Nat.le_refl _) (Obj.cells #[.int .u32 167772160, .int .i64 8] 26)))
  have HPi := Lib.hid (HPh.out.alloc (Obj.cells #[.int .u32 167772160, .int .i64 8] 26))
  have HQi := Lib.hid (HQh.out.alloc (Obj.cells #[.int .u32 167772160, .int .i64 8] 26))
  generalize (w14.alloc (Obj.cells #[.int .u32 167772160, .int .i64 8] 26)) = X14 at *
  generalize w14.heap.size = B14 at *
  have D6 := Lib.hid (fun W h => Nodes_any w.heap.size t4 W h (by omega))
  rw [hsz] at D6
  clear hsz D0 D1 D2 D3 D4 D5 C3 HT0
  have p0 := HPi.out.c0
  have p1 := HPi.out.c1
  have q0 := HQi.out.c0
  have q1 := HQi.out.c1
  have r0 := HRi.out.c0
  have r1 := HRi.out.c1
  have g1 := HPi.out.lt
  have g2 := HQi.out.lt
  have g3 := HRi.out.lt
  have HCell := Lib.hid (show ∀ W', Below X14.heap.size X14 W' → (W'.cell? ⟨B9, 0, none⟩ = some (.int .u32 167837696) ∧ W'.cell? ⟨B9, 1, none⟩ = some (.int .i64 16) ∧ W'.cell? ⟨B10, 0, none⟩ = some (.int .u32 167772160) ∧ W'.cell? ⟨B10, 1, none⟩ = some (.int .i64 8) ∧ W'.cell? ⟨B14, 0, none⟩ = some (.int .u32 167772160) ∧ W'.cell? ⟨B14, 1, none⟩ = some (.int .i64 8)) from fun W' h =>
    ⟨(HPi.out.below h).c0, (HPi.out.below h).c1, (HQi.out.below h).c0, (HQi.out.below h).c1, (HRi.out.below h).c0, (HRi.out.below h).c1⟩)
  go_region_held3 (fun W' => W'.cell? ⟨B9, 0, none⟩ = some (.int .u32 167837696) ∧ W'.cell? ⟨B9, 1, none⟩ = some (.int .i64 16) ∧ W'.cell? ⟨B10, 0, none⟩ = some (.int .u32 167772160) ∧ W'.cell? ⟨B10, 1, none⟩ = some (.int .i64 8) ∧ W'.cell? ⟨B14, 0, none⟩ = some (.int .u32 167772160) ∧ W'.cell? ⟨B14, 1, none⟩ = some (.int .i64 8))
    (go_keep)
    (first
      | (go_at_call 33; with_reducible refine (of_any _ _ _).mono ?_; rintro e v1 ⟨rfl, hb⟩; have hb1 := bthen (Below.refl X14.heap.size X14).drew hb; have HB1 := Lib.hid hb1; obtain ⟨x1, x2, x3, x4, x5, x6⟩ := HCell.out _ hb1; clear hb hb1)
      | (go_at_call 33; with_reducible refine (of_any _ _ _).mono ?_; rintro e v2 ⟨rfl, hb⟩; have hb1 := bthen HB1.out hb; have HB2 := Lib.hid hb1; obtain ⟨y1, y2, y3, y4, y5, y6⟩ := HCell.out _ hb1; clear hb hb1)
      | (go_at_call 33; with_reducible refine (of_any _ _ _).mono ?_; rintro e v3 ⟨rfl, hb⟩; have hb1 := bthen HB2.out hb; have HB3 := Lib.hid hb1; obtain ⟨z1, z2, z3, z4, z5, z6⟩ := HCell.out _ hb1; clear hb hb1)
      | (go_at_call 17; with_reducible refine (num_any _ _).mono ?_; rintro e v9 ⟨rfl, rfl⟩)
      | (go_at_call 24; with_reducible refine (D6.out _ (HTi.out.below HB3.out).st).mono ?_; rintro e v4 ⟨rfl, hb⟩; have hb1 := bthen HB3.out hb; have HB4 := Lib.hid hb1; obtain ⟨t1, t2, t3, t4, t5, t6⟩ := HCell.out _ hb1; clear hb hb1))
  all_goals
    go_wp2_with fail
    go_ret
    exact ⟨rfl, bthen HTi.out.bl HB4.out⟩
end Go.Proofs.YtbacahoihkpkpaaDoor
/- Two tries in one world; prefixes that came in; what TrieHolds's rounds hold of them. -/
namespace Go.Proofs.YtbacahoihkpkpaaDoor
open Go.RowKit Go.Shelf Go.Maps

/-- two tries of one's own -/
structure T2 (w0 W : World) (q : Nat) (t : TT) (r : Nat) (s : TT) : Prop where
  a : TW w0 W q t
  b : TW w0 W r s
  d : ∀ c ∈ q :: t.blocks, c ∉ r :: s.blocks
theorem T2.swap {w0 W : World} {q r : Nat} {t s : TT} (h : T2 w0 W q t r s) : T2 w0 W r s q t := ⟨h.b, h.a, fun c h1 h2 => h.d c h2 h1⟩
theorem T2.below {w0 W W' : World} {q r : Nat} {t s : TT} (h : T2 w0 W q t r s) (hb : Below W.heap.size W W') : T2 w0 W' q t r s := ⟨h.a.below hb, h.b.below hb, h.d⟩
theorem T2.went {w0 W W' : World} {q r : Nat} {t t' s : TT} (h : T2 w0 W q t r s) (g : Went W W' q t t') : T2 w0 W' q t' r s := by
  have h1 := h.a.went g
  have hlt : ∀ c ∈ r :: s.blocks, c < W.heap.size := fun c hc => by
    rcases List.mem_cons.1 hc with rfl | hc
    · exact h.b.st.lt
    · exact h.b.st.here.lt hc
  refine ⟨h1, ⟨h.b.st.of_blocks fun c hc => g.kb.block c (hlt c hc) (fun hm => h.d c hm hc), h1.rel, h1.bl, h.b.ge⟩, ?_⟩
  intro c hc hc2
  rcases List.mem_cons.1 hc with e | hc
  · exact h.d c (by rw [e]; simp) hc2
  · rcases g.new c hc with h3 | h3
    · exact h.d c (List.mem_cons_of_mem _ h3) hc2
    · have := hlt c hc2; omega
theorem T2.new {w0 W : World} {q : Nat} {t : TT} (h : TW w0 W q t) : T2 w0 (W.alloc (.cells #[.pointer none, .int .i64 0, .bool true] 84)) q t W.heap.size .nil := by
  have b := (Below.refl _ W).alloc (Nat.le_refl _) (.cells #[.pointer none, .int .i64 0, .bool true] 84)
  have h1 := h.below b
  refine ⟨h1, ⟨new_st W, h1.rel, h1.bl, fun c hc => by simp [TT.blocks] at hc; subst hc; exact h.bl.size⟩, ?_⟩
  intro c hc hc2
  simp [TT.blocks] at hc2
  subst hc2
  rcases List.mem_cons.1 hc with e | hc
  · have := h.st.lt; omega
  · have := h.st.here.lt hc; omega

/-- prefixes that came in -/
structure PIn (w : World) (base : Option Addr) (b o k : Nat) (a n : Nat → Int) : Prop where
  lt : b < w.heap.size
  is : 0 < k → base = some ⟨b, o, none⟩
  c : ∀ i, i < k → w.cell? ⟨b, o + i * 2, none⟩ = some (.int .u32 (a i)) ∧ w.cell? ⟨b, o + i * 2 + 1, none⟩ = some (.int .i64 (n i))
  bd : ∀ i, (0 ≤ a i ∧ a i < 4294967296) ∧ -9223372036854775808 ≤ n i ∧ n i ≤ 9223372036854775807
theorem PIn.below {w W : World} {base : Option Addr} {b o k : Nat} {a n : Nat → Int} (h : PIn w base b o k a n) (hb : Below w.heap.size w W) : PIn W base b o k a n :=
  ⟨Nat.lt_of_lt_of_le h.lt hb.size, h.is, fun i hi => ⟨(hb.cell (p := ⟨b, o + i * 2, none⟩) h.lt).trans (h.c i hi).1, (hb.cell (p := ⟨b, o + i * 2 + 1, none⟩) h.lt).trans (h.c i hi).2⟩, h.bd⟩

def stepP (a n v : Int) (t t' : TT) : Prop := if rightB a n = true then PutR t t' (bs a n) v else t' = t
def stepT (a n : Int) (t t' : TT) : Prop := if rightB a n = true then TakeR t t' (bs a n) else t' = t
theorem stepP_len {a n v : Int} {t t' : TT} (h : t.WF) (h' : t'.WF) (a0 : 0 ≤ a) (a1 : a < 4294967296) (hs : stepP a n v t t') : t'.rows.length ≤ t.rows.length + 1 := by
  unfold stepP at hs
  split at hs
  · rename_i hr; exact putR_len h h' (ka_bs a0 a1 hr).2.2 hs
  · rw [hs]; omega
theorem takeR_len {t t' : TT} (h : t.WF) (h' : t'.WF) {p : Key} (hr : TakeR t t' p) : t'.rows.length ≤ t.rows.length := by
  have : t'.rows = t.rows.filter (fun x => decide (x.1 ≠ p)) := by
    refine ordR_ext h'.rows (h.rows.sublist List.filter_sublist) fun ⟨x, u⟩ => ?_
    rw [hr x u, List.mem_filter]
    simp [and_comm]
  rw [this]
  exact List.length_filter_le _ _
theorem stepT_len {a n : Int} {t t' : TT} (h : t.WF) (h' : t'.WF) (hs : stepT a n t t') : t'.rows.length ≤ t.rows.length := by
  unfold stepT at hs
  split at hs
  · exact takeR_len h h' hs
  · rw [hs]; omega

theorem putA (w0 : World) (q : Nat) (t : TT) (r : Nat) (s : TT) (a n v : Int) (W : World) (h : T2 w0 W q t r s) (a0 : 0 ≤ a) (a1 : a < 4294967296) (hL : t.rows.length < 512) :
    Calls Tryd.prog 14 #[.pointer (some ⟨q, 0, none⟩), .agg #[.int .u32 a, .int .i64 n], .int .i64 v] W fun e w' => ∃ x, e = .returned x ∧ ∃ t', T2 w0 w' q t' r s ∧ stepP a n v t t' ∧ (∀ B a n, PBox W B a n → PBox w' B a n) := by
  cases hr : rightB a n with
  | false => exact (Put_arg q t a n v W h.a.st hr).mono fun e w' ⟨h1, h2⟩ => ⟨_, h1, t, h.below h2, by unfold stepP; rw [hr]; simp, fun B a n hb => hb.below h2⟩
  | true =>
    obtain ⟨e1, e2, e3⟩ := ka_bs a0 a1 hr
    have hs : ∀ t', PutR t t' (bs a n) v → stepP a n v t t' := fun t' hp => by unfold stepP; rw [if_pos hr]; exact hp
    revert hs e1 e2 e3
    generalize bs a n = p
    intro e1 e2 e3 hs
    clear hr
    subst e1 e2
    cases hg : t.get p with
    | none => exact (Put_new q t p v W h.a.st h.a.rel e3 hg hL).mono fun e w' ⟨h1, t', h2, h3⟩ => ⟨_, h1, t', h.went h2, hs t' h3, fun B a n hb => hb.went h.a.st h2⟩
    | some u => exact (Put_old q t p u v W h.a.st h.a.rel e3 hg).mono fun e w' ⟨h1, t', h2, h3⟩ => ⟨_, h1, t', h.went h2, hs t' h3, fun B a n hb => hb.went h.a.st h2⟩
theorem takeA (w0 : World) (q : Nat) (t : TT) (r : Nat) (s : TT) (a n : Int) (W : World) (h : T2 w0 W q t r s) (a0 : 0 ≤ a) (a1 : a < 4294967296) (hL : t.rows.length < 513) :
    Calls Tryd.prog 19 #[.pointer (some ⟨q, 0, none⟩), .agg #[.int .u32 a, .int .i64 n]] W fun e w' => ∃ x, e = .returned x ∧ ∃ t', T2 w0 w' q t' r s ∧ stepT a n t t' := by
  cases hr : rightB a n with
  | false => exact (Take_arg q t a n W h.a.st hr).mono fun e w' ⟨h1, h2⟩ => ⟨_, h1, t, h.below h2, by unfold stepT; rw [hr]; simp⟩
  | true =>
    obtain ⟨e1, e2, e3⟩ := ka_bs a0 a1 hr
    have hs : ∀ t', TakeR t t' (bs a n) → stepT a n t t' := fun t' hp => by unfold stepT; rw [if_pos hr]; exact hp
    revert hs e1 e2 e3
    generalize bs a n = p
    intro e1 e2 e3 hs
    clear hr
    subst e1 e2
    cases hg : t.get p with
    | none =>
      refine (Take_no q t p W h.a.st h.a.rel e3 hg).mono fun e w' ⟨h1, h2⟩ => ⟨_, h1, t, h.below h2, hs t ?_⟩
      intro x u
      refine ⟨fun hm => ⟨?_, hm⟩, fun hm => hm.2⟩
      rintro rfl
      rw [(TT.get_iff h.a.st.wf x u).2 hm] at hg
      cases hg
    | some u => exact (Take_yes q t p u W h.a.st h.a.rel e3 hg (by omega)).mono fun e w' ⟨h1, t', h2, h3⟩ => ⟨_, h1, t', h.went h2, hs t' h3⟩
/-- what Get tells of a prefix that came in -/
def getA (a n : Int) (t : TT) : Option Int := if rightB a n = true then t.get (bs a n) else none
theorem getA_any (w0 : World) (q : Nat) (t : TT) (a n : Int) (W : World) (h : TW w0 W q t) (a0 : 0 ≤ a) (a1 : a < 4294967296) :
    Calls Tryd.prog 20 #[.pointer (some ⟨q, 0, none⟩), .agg #[.int .u32 a, .int .i64 n]] W fun e w' => e = .returned (getV (getA a n t)) ∧ Below W.heap.size W w' := by
  unfold getA
  cases hr : rightB a n with
  | false => exact Get_arg q t a n W h.st hr
  | true =>
    obtain ⟨e1, e2, e3⟩ := ka_bs a0 a1 hr
    rw [if_pos rfl]
    revert e1 e2 e3
    generalize bs a n = p
    intro e1 e2 e3
    clear hr
    subst e1 e2
    exact Get_any q t p W h.st h.rel e3

/-- each prefix of the trie is one of those that came in -/
def From' (k : Nat) (a n : Nat → Int) (t : TT) : Prop := ∀ x u, (x, u) ∈ t.rows → ∃ j, j < k ∧ rightB (a j) (n j) = true ∧ bs (a j) (n j) = x
theorem From'.put {k i : Nat} {a n : Nat → Int} {v : Int} {t t' : TT} (h : From' k a n t) (hi : i < k) (hs : stepP (a i) (n i) v t t') : From' k a n t' := by
  unfold stepP at hs
  split at hs
  · rename_i hr
    intro x u hx
    rcases (hs x u).1 hx with ⟨rfl, _⟩ | ⟨_, h1⟩
    · exact ⟨i, hi, hr, rfl⟩
    · exact h x u h1
  · rw [hs]; exact h
theorem From'.take {k i : Nat} {a n : Nat → Int} {t t' : TT} (h : From' k a n t) (hs : stepT (a i) (n i) t t') : From' k a n t' := by
  unfold stepT at hs
  split at hs
  · exact fun x u hx => h x u ((hs x u).1 hx).2
  · rw [hs]; exact h
/-- what is put in the second trie, from the end on -/
def Copied (k m : Nat) (a n : Nat → Int) (t s : TT) : Prop := ∀ x u, (x, u) ∈ s.rows ↔ (x, u) ∈ t.rows ∧ ∃ j, m ≤ j ∧ j < k ∧ rightB (a j) (n j) = true ∧ bs (a j) (n j) = x
theorem Copied.start {k : Nat} {a n : Nat → Int} {t : TT} : Copied k k a n t .nil := fun x u => by
  simp only [TT.rows, List.not_mem_nil, false_iff]
  rintro ⟨_, j, h1, h2, _⟩
  omega
theorem Copied.skip {k m : Nat} {a n : Nat → Int} {t s : TT} (h : Copied k (m + 1) a n t s) (ht : t.WF) (hg : getA (a m) (n m) t = none) : Copied k m a n t s := by
  intro x u
  rw [h x u]
  constructor
  · rintro ⟨h1, j, h2, h3⟩
    exact ⟨h1, j, by omega, h3⟩
  · rintro ⟨h1, j, h2, h3, h4, h5⟩
    refine ⟨h1, j, ?_, h3, h4, h5⟩
    rcases Nat.lt_or_ge m j with h | h
    · exact h
    · obtain rfl : j = m := by omega
      unfold getA at hg
      rw [if_pos h4, h5, (TT.get_iff ht x u).2 h1] at hg
      cases hg
theorem Copied.put {k m : Nat} {a n : Nat → Int} {v : Int} {t s s' : TT} (h : Copied k (m + 1) a n t s) (hm : m < k) (ht : t.WF) (hg : getA (a m) (n m) t = some v) (hs : stepP (a m) (n m) v s s') : Copied k m a n t s' := by
  unfold getA at hg
  split at hg
  · rename_i hr
    unfold stepP at hs
    rw [if_pos hr] at hs
    have hv := (TT.get_iff ht _ _).1 hg
    intro x u
    rw [hs x u]
    constructor
    · rintro (⟨rfl, rfl⟩ | ⟨hne, h1⟩)
      · exact ⟨hv, m, Nat.le_refl _, hm, hr, rfl⟩
      · obtain ⟨h2, j, h3, h4⟩ := (h x u).1 h1
        exact ⟨h2, j, by omega, h4⟩
    · rintro ⟨h1, j, h2, h3, h4, h5⟩
      by_cases hx : x = bs (a m) (n m)
      · left
        refine ⟨hx, ?_⟩
        have e1 := (TT.get_iff ht x u).2 h1
        rw [hx, hg] at e1
        cases e1
        rfl
      · refine .inr ⟨hx, (h x u).2 ⟨h1, j, ?_, h3, h4, h5⟩⟩
        rcases Nat.lt_or_ge m j with h | h
        · exact h
        · obtain rfl : j = m := by omega
          exact absurd h5.symm hx
  · cases hg
theorem Copied.done {k : Nat} {a n : Nat → Int} {t s : TT} (h : Copied k 0 a n t s) (hF : From' k a n t) (ht : t.WF) (hs : s.WF) : t.rows = s.rows :=
  rows_ext ht hs fun x u => by
    rw [h x u]
    exact ⟨fun hm => ⟨hm, by obtain ⟨j, h1, h2, h3⟩ := hF x u hm; exact ⟨j, by omega, h1, h2, h3⟩⟩, fun hm => hm.1⟩
theorem has_key {x A : Key} (hx : x.length ≤ 32) (hA : A.length = 32) : hasB (ka x) x.length (ka A) = decide (x <+: A) := by
  rw [← ka_holds hx]
  unfold hasB holdsB
  rw [ka_right hx, hA]
  simp
  omega
end Go.Proofs.YtbacahoihkpkpaaDoor
/- The longest prefix around an address: by the trie, by the law's loop. -/
namespace Go.Proofs.YtbacahoihkpkpaaDoor
open Go.RowKit Go.Shelf Go.Maps

/-- the longest key in s that is ahead of A -/
def Best (A : Key) (s : TT) : Option Key → Prop
  | none => ∀ x u, (x, u) ∈ s.rows → ¬ x <+: A
  | some y => (∃ u, (y, u) ∈ s.rows) ∧ y <+: A ∧ ∀ x u, (x, u) ∈ s.rows → x <+: A → x.length ≤ y.length
theorem Best.start {A : Key} : Best A .nil none := fun x u h => by simp [TT.rows] at h
theorem Best.uniq {A : Key} {s : TT} {o o' : Option Key} (h : Best A s o) (h' : Best A s o') : o = o' := by
  cases o with
  | none =>
    cases o' with
    | none => rfl
    | some y => exact absurd h'.2.1 (h y _ h'.1.choose_spec)
  | some x =>
    cases o' with
    | none => exact absurd h.2.1 (h' x _ h.1.choose_spec)
    | some y =>
      have h1 := h.2.2 y _ h'.1.choose_spec h'.2.1
      have h2 := h'.2.2 x _ h.1.choose_spec h.2.1
      have e1 := List.prefix_iff_eq_take.1 h.2.1
      have e2 := List.prefix_iff_eq_take.1 h'.2.1
      rw [e1, e2, show x.length = y.length by omega]
theorem Best.rows {A : Key} {s s' : TT} {o : Option Key} (h : Best A s o) (e : s.rows = s'.rows) : Best A s' o := by
  cases o with
  | none => exact fun x u hx => h x u (by rw [e]; exact hx)
  | some y => exact ⟨by rw [← e]; exact h.1, h.2.1, fun x u hx => h.2.2 x u (by rw [e]; exact hx)⟩
theorem klt_pre_len {x y A : Key} (h : klt x y) (hx : x <+: A) (hy : y <+: A) (hA : A.length = 32) : x.length ≤ y.length := by
  rcases Nat.lt_or_ge y.length x.length with hl | hl
  · have hp := List.prefix_of_prefix_length_le hy hx (Nat.le_of_lt hl)
    have := klt_pre (by rw [← hA]; exact hx.length_le) hp (fun e => by rw [e] at hl; omega)
    exact absurd this (klt_asymm h)
  · exact hl
/-- what Find tells is the longest -/
theorem best_above {A : Key} {t : TT} (h : t.WF) (hA : A.length = 32) : Best A t ((t.above A).getLast?.map (·.1)) := by
  rw [TT.above_eq h]
  have hO : TT.OrdR (t.rows.filter fun x => decide (x.1 <+: A)) := h.rows.sublist List.filter_sublist
  have hm : ∀ x, x ∈ (t.rows.filter fun x => decide (x.1 <+: A)) ↔ x ∈ t.rows ∧ x.1 <+: A := fun x => by simp [List.mem_filter]
  revert hO hm
  generalize (t.rows.filter fun x => decide (x.1 <+: A)) = L
  intro hO hm
  rcases List.eq_nil_or_concat L with rfl | ⟨M, y, rfl⟩
  · intro x u hx hp
    have := (hm (x, u)).2 ⟨hx, hp⟩
    simp at this
  · simp only [List.concat_eq_append, List.getLast?_append, List.getLast?_singleton, Option.some_or, Option.map_some] at hm ⊢
    have hy := (hm y).1 (by simp)
    refine ⟨⟨y.2, hy.1⟩, hy.2, fun x u hx hp => ?_⟩
    have hxm := (hm (x, u)).2 ⟨hx, hp⟩
    rcases List.mem_append.1 hxm with h1 | h1
    · have hlt : klt x y.1 := by
        have := (List.pairwise_append.1 (by unfold TT.OrdR at hO; simpa [List.concat_eq_append] using hO)).2.2 (x, u) h1 y (by simp)
        exact this
      exact klt_pre_len hlt hp hy.2 hA
    · simp at h1
      rw [← h1]
      exact Nat.le_refl _
theorem Best.put {A : Key} {s s' : TT} {p : Key} {v : Int} {o : Option Key} (h : Best A s o) (hs : PutR s s' p v) :
    Best A s' (if p <+: A then (match o with | none => some p | some y => if y.length < p.length then some p else some y) else o) := by
  cases o with
  | none =>
    by_cases hp : p <+: A
    · rw [if_pos hp]
      refine ⟨⟨v, (hs p v).2 (.inl ⟨rfl, rfl⟩)⟩, hp, fun x u hx hxp => ?_⟩
      rcases (hs x u).1 hx with ⟨rfl, _⟩ | ⟨_, h1⟩
      · exact Nat.le_refl _
      · exact absurd hxp (h x u h1)
    · rw [if_neg hp]
      intro x u hx
      rcases (hs x u).1 hx with ⟨rfl, _⟩ | ⟨_, h1⟩
      · exact hp
      · exact h x u h1
  | some y =>
    obtain ⟨⟨uy, hy⟩, hyp, hmx⟩ := h
    have hyin : ∃ u, (y, u) ∈ s'.rows := by
      by_cases e : y = p
      · exact ⟨v, (hs y v).2 (.inl ⟨e, rfl⟩)⟩
      · exact ⟨uy, (hs y uy).2 (.inr ⟨e, hy⟩)⟩
    by_cases hp : p <+: A
    · rw [if_pos hp]
      simp only
      split
      · rename_i hlt
        refine ⟨⟨v, (hs p v).2 (.inl ⟨rfl, rfl⟩)⟩, hp, fun x u hx hxp => ?_⟩
        rcases (hs x u).1 hx with ⟨rfl, _⟩ | ⟨_, h1⟩
        · exact Nat.le_refl _
        · have := hmx x u h1 hxp; omega
      · rename_i hge
        refine ⟨hyin, hyp, fun x u hx hxp => ?_⟩
        rcases (hs x u).1 hx with ⟨rfl, _⟩ | ⟨_, h1⟩
        · omega
        · exact hmx x u h1 hxp
    · rw [if_neg hp]
      refine ⟨hyin, hyp, fun x u hx hxp => ?_⟩
      rcases (hs x u).1 hx with ⟨rfl, _⟩ | ⟨_, h1⟩
      · exact absurd hxp hp
      · exact hmx x u h1 hxp
/-- a write to a box that is no trie's -/
theorem TW.setBox {w0 W : World} {q B : Nat} {t : TT} {a n : Int} (h : TW w0 W q t) (hB : PBox W B a n) (hge : w0.heap.size ≤ B) (h0 : B ≠ 0) (o : Nat) (v : Value) : TW w0 (W.setCell ⟨B, o, none⟩ v) q t :=
  ⟨h.st.of_blocks fun c hc => heapS _ _ _ _ c (fun e => hB.notin h.st (e ▸ hc)), h.rel.kp (heapS _ _ _ _ 0 (fun e => h0 e.symm)), h.bl.setCell (p := ⟨B, o, none⟩) hge v, h.ge⟩
theorem T2.setBox {w0 W : World} {q r B : Nat} {t s : TT} {a n : Int} (a' n' : Int) (h : T2 w0 W q t r s) (hB : PBox W B a n) (hge : w0.heap.size ≤ B) (h0 : B ≠ 0) :
    T2 w0 ((W.setCell ⟨B, 0, none⟩ (.int .u32 a')).setCell ⟨B, 1, none⟩ (.int .i64 n')) q t r s ∧ PBox ((W.setCell ⟨B, 0, none⟩ (.int .u32 a')).setCell ⟨B, 1, none⟩ (.int .i64 n')) B a' n' := by
  have hk : ∀ c, c ≠ B → ((W.setCell ⟨B, 0, none⟩ (.int .u32 a')).setCell ⟨B, 1, none⟩ (.int .i64 n')).heap[c]? = W.heap[c]? := fun c hc => (heapS _ _ _ _ c hc).trans (heapS _ _ _ _ c hc)
  have hb : Below w0.heap.size w0 ((W.setCell ⟨B, 0, none⟩ (.int .u32 a')).setCell ⟨B, 1, none⟩ (.int .i64 n')) := (h.a.bl.setCell (p := ⟨B, 0, none⟩) hge _).setCell (p := ⟨B, 1, none⟩) hge _
  have hr := h.a.rel.kp (hk 0 (fun e => h0 e.symm))
  exact ⟨⟨⟨h.a.st.of_blocks fun c hc => hk c (fun e => hB.notin h.a.st (e ▸ hc)), hr, hb, h.a.ge⟩, ⟨h.b.st.of_blocks fun c hc => hk c (fun e => hB.notin h.b.st (e ▸ hc)), hr, hb, h.b.ge⟩, h.d⟩, hB.set a' n'⟩
end Go.Proofs.YtbacahoihkpkpaaDoor
