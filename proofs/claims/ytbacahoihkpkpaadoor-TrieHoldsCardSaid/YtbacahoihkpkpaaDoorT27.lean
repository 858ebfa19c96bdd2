/- works: the walk. -/
import Derived.Test.YtbacahoihkpkpaaDoorT26
namespace Go.Proofs.YtbacahoihkpkpaaDoor
open Go.RowKit Go.Shelf Go.Maps

set_option maxHeartbeats 400000 in
theorem num_any (n : Int) (w : World) : Calls Tryd.prog 17 #[.int .i64 n] w fun e w' => e = .returned (.int .i64 n) ∧ w = w' := by
  go_enter Tryd.func17, Tryd.ntmps17
  go_wp2
  go_ret
  exact ⟨rfl, rfl⟩
set_option maxHeartbeats 400000 in
theorem of_any (a n : Int) (w : World) : Calls Tryd.prog 33 #[.int .u32 a, .int .i64 n] w fun e w' => e = .returned (.agg #[.int .u32 a, .int .i64 n]) ∧ Below w.heap.size w w' := by
  go_enter Tryd.func33, Tryd.ntmps33
  go_wp2
  refine bodyPost_ret (v := .agg #[.int .u32 a, .int .i64 n]) (by simp [results, Tryd.results33, go_sem]) rfl ⟨rfl, ?_⟩
  exact (Below.refl _ w).alloc (Nat.le_refl _) _

/-- a trie of one's own -/
structure TW (w0 W : World) (q : Nat) (t : TT) : Prop where
  st : TrS W q t
  rel : RelsAt W
  bl : Below w0.heap.size w0 W
  ge : ∀ c ∈ q :: t.blocks, w0.heap.size ≤ c
theorem TW.below {w0 W W' : World} {q : Nat} {t : TT} (h : TW w0 W q t) (hb : Below W.heap.size W W') : TW w0 W' q t :=
  ⟨h.st.below hb, h.rel.below hb, bthen h.bl hb, h.ge⟩
theorem TW.went {w0 W W' : World} {q : Nat} {t t' : TT} (h : TW w0 W q t) (g : Went W W' q t t') : TW w0 W' q t' := by
  refine ⟨g.st, h.rel.kb (h.st.zero h.rel) g.kb, ?_, ?_⟩
  · have hk := g.kb
    exact ⟨hk.os.trans h.bl.os, hk.tape.trans h.bl.tape, hk.output.trans h.bl.output, Nat.le_trans h.bl.size hk.size, fun i hi => (hk.block i (Nat.lt_of_lt_of_le hi h.bl.size) (fun hm => by have := h.ge i hm; omega)).trans (h.bl.block i hi)⟩
  · intro c hc
    rcases List.mem_cons.1 hc with rfl | hc
    · exact h.ge _ (by simp)
    · rcases g.new c hc with h1 | h1
      · exact h.ge _ (List.mem_cons_of_mem _ h1)
      · exact Nat.le_trans h.bl.size h1
theorem TW.new (w : World) (hR : RelsAt w) : TW w (w.alloc (.cells #[.pointer none, .int .i64 0, .bool true] 84)) w.heap.size .nil :=
  have b := (Below.refl _ w).alloc (Nat.le_refl _) (.cells #[.pointer none, .int .i64 0, .bool true] 84)
  ⟨new_st w, hR.below b, b, by simp [TT.blocks]⟩

theorem PBox.notin {W : World} {B q : Nat} {a n : Int} {t : TT} (h : PBox W B a n) (hT : TrS W q t) : B ∉ q :: t.blocks := by
  have hb : W.heap[B]? = _ := h
  intro hm
  rcases List.mem_cons.1 hm with e | hm
  · rw [e, hT.box] at hb
    simp at hb
  · obtain ⟨k, o, l, r, hb2⟩ := hT.here.block hm
    rw [hb2] at hb
    simp [nodeO] at hb
theorem PBox.went {W W' : World} {B q : Nat} {a n : Int} {t t' : TT} (h : PBox W B a n) (hT : TrS W q t) (g : Went W W' q t t') : PBox W' B a n :=
  (g.kb.block B h.lt (h.notin hT)).trans h
theorem putC (w0 : World) (q : Nat) (t : TT) (p : Key) (a n v : Int) (ha : ka p = a) (hn : (p.length : Int) = n) (w : World) (h : TW w0 w q t) (hp : p.length ≤ 32) (hg : t.get p = none) (hL : t.rows.length < 512) :
    Calls Tryd.prog 14 #[.pointer (some ⟨q, 0, none⟩), .agg #[.int .u32 a, .int .i64 n], .int .i64 v] w fun e w' => e = .returned (.tuple #[.int .i64 0, .bool false, .int .i64 0]) ∧ ∃ t', TW w0 w' q t' ∧ PutR t t' p v ∧ (∀ B a n, PBox w B a n → PBox w' B a n) := by
  subst ha hn
  exact (Put_new q t p v w h.st h.rel hp hg hL).mono fun e w' ⟨h1, t', h2, h3⟩ => ⟨h1, t', h.went h2, h3, fun B a n hb => hb.went h.st h2⟩
theorem takeC (w0 : World) (q : Nat) (t : TT) (p : Key) (a n u : Int) (ha : ka p = a) (hn : (p.length : Int) = n) (w : World) (h : TW w0 w q t) (hp : p.length ≤ 32) (hg : t.get p = some u) (hL : t.rows.length < 513) :
    Calls Tryd.prog 19 #[.pointer (some ⟨q, 0, none⟩), .agg #[.int .u32 a, .int .i64 n]] w fun e w' => e = .returned (.tuple #[.int .i64 u, .bool true, .int .i64 0]) ∧ ∃ t', TW w0 w' q t' ∧ TakeR t t' p ∧ (∀ B a n, PBox w B a n → PBox w' B a n) := by
  subst ha hn
  exact (Take_yes q t p u w h.st h.rel hp hg (by omega)).mono fun e w' ⟨h1, t', h2, h3⟩ => ⟨h1, t', h.went h2, h3, fun B a n hb => hb.went h.st h2⟩
theorem findC (w0 : World) (q : Nat) (t : TT) (p : Key) (a : Int) (o : Option (Key × Int)) (ha : ka p = a) (w : World) (h : TW w0 w q t) (hp : p.length = 32) (ho : (t.above p).getLast? = o) :
    Calls Tryd.prog 11 #[.pointer (some ⟨q, 0, none⟩), .int .u32 a] w fun e w' => e = .returned (findV o) ∧ TW w0 w' q t ∧ Below w.heap.size w w' := by
  subst ha ho
  exact (Find_any q t p w h.st h.rel hp).mono fun e w' ⟨h1, h2⟩ => ⟨h1, h.below h2, h2⟩
theorem findS (w0 : World) (q : Nat) (t : TT) (p : Key) (a : Int) (y : Key) (ya yn u : Int) (ha : ka p = a) (hy : ka y = ya) (hn : (y.length : Int) = yn) (w : World) (h : TW w0 w q t) (hp : p.length = 32) (ho : (t.above p).getLast? = some (y, u)) :
    Calls Tryd.prog 11 #[.pointer (some ⟨q, 0, none⟩), .int .u32 a] w fun e w' => e = .returned (.tuple #[.agg #[.int .u32 ya, .int .i64 yn], .int .i64 u, .bool true]) ∧ TW w0 w' q t ∧ Below w.heap.size w w' := by
  subst hy hn
  exact findC w0 q t p a _ ha w h hp ho
theorem findN (w0 : World) (q : Nat) (t : TT) (p : Key) (a : Int) (ha : ka p = a) (w : World) (h : TW w0 w q t) (hp : p.length = 32) (ho : (t.above p).getLast? = none) :
    Calls Tryd.prog 11 #[.pointer (some ⟨q, 0, none⟩), .int .u32 a] w fun e w' => e = .returned (.tuple #[.agg #[.int .u32 0, .int .i64 0], .int .i64 0, .bool false]) ∧ TW w0 w' q t ∧ Below w.heap.size w w' :=
  findC w0 q t p a _ ha w h hp ho
theorem PBox.new' (W W' : World) (a n : Int) (h : Below (W.heap.size + 1) (W.alloc (.cells #[.int .u32 a, .int .i64 n] 26)) W') : PBox W' W.heap.size a n :=
  (h.block _ (by omega)).trans (PBox.new W a n)

set_option maxRecDepth 100000 in
set_option maxHeartbeats 8000000 in
theorem works_any (w : World) (hR : RelsAt w) : Calls Tryd.prog 9 #[] w fun e w' => e = .returned (.bool true) ∧ Below w.heap.size w w' := by
  have HT0 := Lib.hid (TW.new w hR)
  clear hR
  go_enter Tryd.func9, Tryd.ntmps9
  have C0 := Lib.hid (fun W h => putC w w.heap.size .nil k8 167772160 8 1 ka_k8 (by decide) W h (by decide) rfl (by simp [TT.rows]))
  go_upto_region 3 with (first
    | (go_at_call 18; with_reducible refine (New_any _).mono ?_; rintro e w1 ⟨rfl, rfl⟩)
    | (go_at_call 33; with_reducible refine (of_any _ _ _).mono ?_; rintro e w1 ⟨rfl, hb⟩; have HT1 := Lib.hid (HT0.out.below hb); clear hb)
    | (go_at_call 14; with_reducible refine (C0.out _ HT1.out).mono ?_; rintro e w2 ⟨rfl, t1, hT, hp, _⟩; have HP1 := Lib.hid (works_rows_1 hT.st.wf hp); have HT2 := Lib.hid hT; clear hT hp)
    | fail)
  have C1 := Lib.hid (fun W h => putC w w.heap.size t1 k16 167837696 16 2 ka_k16 (by decide) W h (by decide) (get_none HT2.out.st.wf (by rw [HP1.out]; intro u hm; simp [n1.symm] at hm)) (by rw [HP1.out]; decide))
  go_upto_region 4 with (first
    | (go_at_call 33; with_reducible refine (of_any _ _ _).mono ?_; rintro e w3 ⟨rfl, hb⟩; have HT3 := Lib.hid (HT2.out.below hb); clear hb)
    | (go_at_call 14; with_reducible refine (C1.out _ HT3.out).mono ?_; rintro e w4 ⟨rfl, t2, hT, hp, _⟩; have HP2 := Lib.hid (works_rows_12 hT.st.wf HP1.out hp); have HT4 := Lib.hid hT; clear hT hp)
    | fail)
  have C2 := Lib.hid (fun W h => putC w w.heap.size t2 k16b 167903232 16 3 ka_k16b (by decide) W h (by decide) (get_none HT4.out.st.wf (by rw [HP2.out]; intro u hm; simp [n2.symm, n3.symm] at hm)) (by rw [HP2.out]; decide))
  go_upto_region 5 with (first
    | (go_at_call 33; with_reducible refine (of_any _ _ _).mono ?_; rintro e w5 ⟨rfl, hb⟩; have HT5 := Lib.hid (HT4.out.below hb); clear hb)
    | (go_at_call 14; with_reducible refine (C2.out _ HT5.out).mono ?_; rintro e w6 ⟨rfl, t3, hT, hp, _⟩; have HP3 := Lib.hid (works_rows_3 hT.st.wf HP2.out hp); have HT6 := Lib.hid hT; clear hT hp)
    | fail)
  have hsz : t3.sz = 4 := sz_of_rows HT6.out.st.wf wf3 HP3.out
  have hdp : t3.dp = 3 := dp_of_rows HT6.out.st.wf wf3 HP3.out
  have D0 := Lib.hid (Nodes_any _ t3 w6 HT6.out.st (by omega))
  rw [hsz] at D0
  have D1 := Lib.hid (fun W h => Depth_any w.heap.size t3 W h (by omega))
  rw [hdp] at D1
  clear hsz hdp C0 C1 C2
  go_upto_region 7 with (first
    | (go_at_call 17; with_reducible refine (num_any _ _).mono ?_; rintro e w' ⟨rfl, rfl⟩)
    | (go_at_call 24; with_reducible refine D0.out.mono ?_; rintro e w7 ⟨rfl, hb⟩; have HT7 := Lib.hid (HT6.out.below hb); clear hb)
    | (go_at_call 25; with_reducible refine (D1.out _ HT7.out.st).mono ?_; rintro e w8 ⟨rfl, hb⟩; have HT8 := Lib.hid (HT7.out.below hb); clear hb)
    | fail)
  have F1 := (works_f1 HT6.out.st.wf HP3.out)
  have D2 := Lib.hid (fun W h => findS w w.heap.size t3 a1 167838211 k16 167837696 16 2 ka_a1 ka_k16 (by decide) W h rfl F1.1)
  have D3 := Lib.hid (fun W h => findS w w.heap.size t3 a2 168364297 k8 167772160 8 1 ka_a2 ka_k8 (by decide) W h rfl F1.2.1)
  have D4 := Lib.hid (fun W h => findN w w.heap.size t3 a3 184549376 ka_a3 W h rfl F1.2.2)
  clear F1
  go_upto_region 8 with (first
    | (go_at_call 11; with_reducible refine (D2.out _ HT8.out).mono ?_; rintro e w9 ⟨rfl, hT, hb⟩; have HT9 := Lib.hid hT; clear hT hb)
    | fail)
  have HPa := Lib.hid (PBox.new w9 167837696 16)
  have HTa := Lib.hid (HT9.out.below ((Below.refl _ w9).alloc (Nat.le_refl _) (Obj.cells #[.int .u32 167837696, .int .i64 16] 26)))
  generalize (w9.alloc (Obj.cells #[.int .u32 167837696, .int .i64 16] 26)) = X9 at *
  generalize w9.heap.size = B9 at *
  go_upto_region 9 with (first
    | (go_at_call 11; with_reducible refine (D3.out _ HTa.out).mono ?_; rintro e w10 ⟨rfl, hT, hb⟩; have HT10 := Lib.hid hT; have HPb := Lib.hid (HPa.out.below hb); clear hT hb)
    | fail)
  have HQb := Lib.hid (PBox.new w10 167772160 8)
  have HTb := Lib.hid (HT10.out.below ((Below.refl _ w10).alloc (Nat.le_refl _) (Obj.cells #[.int .u32 167772160, .int .i64 8] 26)))
  have HPc := Lib.hid (HPb.out.alloc (Obj.cells #[.int .u32 167772160, .int .i64 8] 26))
  generalize (w10.alloc (Obj.cells #[.int .u32 167772160, .int .i64 8] 26)) = X10 at *
  generalize w10.heap.size = B10 at *
  go_upto_region 10 with (first
    | (go_at_call 11; with_reducible refine (D4.out _ HTb.out).mono ?_; rintro e w11 ⟨rfl, hT, hb⟩; have HT11 := Lib.hid hT; have HPd := Lib.hid (HPc.out.below hb); have HQd := Lib.hid (HQb.out.below hb); clear hT hb)
    | fail)
  have HTc := Lib.hid (HT11.out.below ((Below.refl _ w11).alloc (Nat.le_refl _) (Obj.cells #[.int .u32 0, .int .i64 0] 26)))
  have HPe := Lib.hid (HPd.out.alloc (Obj.cells #[.int .u32 0, .int .i64 0] 26))
  have HQe := Lib.hid (HQd.out.alloc (Obj.cells #[.int .u32 0, .int .i64 0] 26))
  generalize (w11.alloc (Obj.cells #[.int .u32 0, .int .i64 0] 26)) = X11 at *
  have C3 := Lib.hid (fun W h => takeC w w.heap.size t3 k16 167837696 16 2 ka_k16 (by decide) W h (by decide) ((TT.get_iff HT11.out.st.wf _ _).2 (by rw [HP3.out]; simp)) (by rw [HP3.out]; decide))
  go_upto_region 11 with (first
    | (go_at_call 33; with_reducible refine (of_any _ _ _).mono ?_; rintro e w12 ⟨rfl, hb⟩; have HT12 := Lib.hid (HTc.out.below hb); have HPf := Lib.hid (HPe.out.below hb); have HQf := Lib.hid (HQe.out.below hb); clear hb)
    | (go_at_call 19; with_reducible refine (C3.out _ HT12.out).mono ?_; rintro e w13 ⟨rfl, t4, hT, hp, hbx⟩; have HP4 := Lib.hid (works_rows2 hT.st.wf HP3.out hp); have HT13 := Lib.hid hT; have HPg := Lib.hid (hbx _ _ _ HPf.out); have HQg := Lib.hid (hbx _ _ _ HQf.out); clear hT hp hbx)
    | fail)
  have D5 := Lib.hid (fun W h => findS w w.heap.size t4 a1 167838211 k8 167772160 8 1 ka_a1 ka_k8 (by decide) W h rfl (works_f2 HT13.out.st.wf HP4.out))
  have hsz : t4.sz = 2 := sz_of_rows HT13.out.st.wf wf2 HP4.out
  go_upto_region 12 with (first
    | (go_at_call 11; with_reducible refine (D5.out _ HT13.out).mono ?_; rintro e w14 ⟨rfl, hT, hb⟩; have HT14 := Lib.hid hT; have HPh := Lib.hid (HPg.out.below hb); have HQh := Lib.hid (HQg.out.below hb); clear hT hb)
    | fail)
  have HRi := Lib.hid (PBox.new w14 167772160 8)
  have HTi := Lib.hid (HT14.out.below ((Below.refl _ w14).alloc (Nat.le_refl _) (Obj.cells #[.int .u32 167772160, .int .i64 8] 26)))
  have HPi := Lib.hid (HPh.out.alloc (Obj.cells #[.int .u32 167772160, .int .i64 8] 26))
  have HQi := Lib.hid (HQh.out.alloc (Obj.cells #[.int .u32 167772160, .int .i64 8] 26))
  generalize (w14.alloc (Obj.cells #[.int .u32 167772160, .int .i64 8] 26)) = X14 at *
  generalize w14.heap.size = B14 at *
  have D6 := Lib.hid (fun W h => Nodes_any w.heap.size t4 W h (by omega))
  rw [hsz] at D6
  clear hsz D0 D1 D2 D3 D4 D5 C3 HT0
  have p0 := HPi.out.c0
  have p1 := HPi.out.c1
  have q0 := HQi.out.c0
  have q1 := HQi.out.c1
  have r0 := HRi.out.c0
  have r1 := HRi.out.c1
  have g1 := HPi.out.lt
  have g2 := HQi.out.lt
  have g3 := HRi.out.lt
  have HCell := Lib.hid (show ∀ W', Below X14.heap.size X14 W' → (W'.cell? ⟨B9, 0, none⟩ = some (.int .u32 167837696) ∧ W'.cell? ⟨B9, 1, none⟩ = some (.int .i64 16) ∧ W'.cell? ⟨B10, 0, none⟩ = some (.int .u32 167772160) ∧ W'.cell? ⟨B10, 1, none⟩ = some (.int .i64 8) ∧ W'.cell? ⟨B14, 0, none⟩ = some (.int .u32 167772160) ∧ W'.cell? ⟨B14, 1, none⟩ = some (.int .i64 8)) from fun W' h =>
    ⟨(HPi.out.below h).c0, (HPi.out.below h).c1, (HQi.out.below h).c0, (HQi.out.below h).c1, (HRi.out.below h).c0, (HRi.out.below h).c1⟩)
  go_region_held3 (fun W' => W'.cell? ⟨B9, 0, none⟩ = some (.int .u32 167837696) ∧ W'.cell? ⟨B9, 1, none⟩ = some (.int .i64 16) ∧ W'.cell? ⟨B10, 0, none⟩ = some (.int .u32 167772160) ∧ W'.cell? ⟨B10, 1, none⟩ = some (.int .i64 8) ∧ W'.cell? ⟨B14, 0, none⟩ = some (.int .u32 167772160) ∧ W'.cell? ⟨B14, 1, none⟩ = some (.int .i64 8))
    (go_keep)
    (first
      | (go_at_call 33; with_reducible refine (of_any _ _ _).mono ?_; rintro e v1 ⟨rfl, hb⟩; have hb1 := bthen (Below.refl X14.heap.size X14).drew hb; have HB1 := Lib.hid hb1; obtain ⟨x1, x2, x3, x4, x5, x6⟩ := HCell.out _ hb1; clear hb hb1)
      | (go_at_call 33; with_reducible refine (of_any _ _ _).mono ?_; rintro e v2 ⟨rfl, hb⟩; have hb1 := bthen HB1.out hb; have HB2 := Lib.hid hb1; obtain ⟨y1, y2, y3, y4, y5, y6⟩ := HCell.out _ hb1; clear hb hb1)
      | (go_at_call 33; with_reducible refine (of_any _ _ _).mono ?_; rintro e v3 ⟨rfl, hb⟩; have hb1 := bthen HB2.out hb; have HB3 := Lib.hid hb1; obtain ⟨z1, z2, z3, z4, z5, z6⟩ := HCell.out _ hb1; clear hb hb1)
      | (go_at_call 17; with_reducible refine (num_any _ _).mono ?_; rintro e v9 ⟨rfl, rfl⟩)
      | (go_at_call 24; with_reducible refine (D6.out _ (HTi.out.below HB3.out).st).mono ?_; rintro e v4 ⟨rfl, hb⟩; have hb1 := bthen HB3.out hb; have HB4 := Lib.hid hb1; obtain ⟨t1, t2, t3, t4, t5, t6⟩ := HCell.out _ hb1; clear hb hb1))
  all_goals
    go_wp2_with fail
    go_ret
    exact ⟨rfl, bthen HTi.out.bl HB4.out⟩
end Go.Proofs.YtbacahoihkpkpaaDoor
