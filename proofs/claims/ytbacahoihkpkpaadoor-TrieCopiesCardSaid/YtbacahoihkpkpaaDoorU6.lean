/- Contracts: trie.folded[*node], Copy. -/
import Derived.Test.YtbacahoihkpkpaaDoorT34
import Derived.Deep.RegionHeld3
import Derived.Laws.Cover3
namespace Go.Proofs.YtbacahoihkpkpaaDoor
open Go.RowKit Go.Shelf Go.Maps

attribute [local go_sem] store_func

/-- the same but for the blocks -/
def Alike : TT → TT → Prop
  | .nil, .nil => True
  | .node _ k o l r, .node _ k' o' l' r' => k = k' ∧ o = o' ∧ Alike l l' ∧ Alike r r'
  | _, _ => False
theorem Alike.rows {t t' : TT} (h : Alike t t') : t.rows = t'.rows ∧ t.keys = t'.keys ∧ t.isN = t'.isN := by
  induction t generalizing t' with
  | nil => cases t' <;> simp [Alike, TT.rows, TT.keys, TT.isN] at h ⊢
  | node b k o l r il ir =>
    cases t' with
    | nil => exact h.elim
    | node b' k' o' l' r' =>
      obtain ⟨rfl, rfl, h1, h2⟩ := h
      obtain ⟨a1, a2, a3⟩ := il h1
      obtain ⟨b1, b2, b3⟩ := ir h2
      simp [TT.rows, TT.keys, TT.isN, a1, a2, b1, b2]
theorem Alike.wf {t t' : TT} (h : Alike t t') (hw : t.WF) : t'.WF := by
  induction t generalizing t' with
  | nil => cases t' <;> simp [Alike] at h; trivial
  | node b k o l r il ir =>
    cases t' with
    | nil => exact h.elim
    | node b' k' o' l' r' =>
      obtain ⟨rfl, rfl, h1, h2⟩ := h
      obtain ⟨w1, w2, w3, w4, w5, w6⟩ := hw
      have a := h1.rows
      have c := h2.rows
      exact ⟨w1, by rw [← a.2.1]; exact w2, by rw [← c.2.1]; exact w3, by rw [← a.2.2, ← c.2.2]; exact w4, il h1 w5, ir h2 w6⟩

/-- what folding to a copy leaves: a trie of new blocks -/
structure Cop (W w' : World) (T T' : TT) (o : Option Addr) : Prop where
  p : T'.ptr = .pointer o
  al : Alike T T'
  inn : T'.In w'
  nd : T'.blocks.Nodup
  ge : ∀ c ∈ T'.blocks, W.heap.size ≤ c
  bl : Below W.heap.size W w'

set_option maxRecDepth 100000 in
set_option maxHeartbeats 2000000 in
theorem Copy1_any (b : Nat) (k : Key) (o : Option Int) (l r : TT) (W : World) (B : Nat) (ol or : Option Addr) (hin : (TT.node b k o l r).In W) (h0 : W.cell? ⟨B, 0, none⟩ = some (.pointer ol)) (h1 : W.cell? ⟨B, 1, none⟩ = some (.pointer or)) :
    Calls Tryd.prog 56 #[.pointer (some ⟨b, 0, none⟩), .slice (some ⟨B, 0, none⟩) 2 2] W fun e w' => e = .returned (.pointer (some ⟨W.heap.size, 0, none⟩)) ∧ w'.heap[W.heap.size]? = some (.cells #[.int .u32 (ka k), .int .i64 k.length, .int .i64 (o.getD 0), .bool o.isSome, .pointer ol, .pointer or] 82 (0, 0)) ∧ Below W.heap.size W w' := by
  have hbl : b < W.heap.size := hin.lt (by simp [TT.blocks])
  have n0 := hin.c 0
  have n1 := hin.c 1
  have n2 := hin.c 2
  have n3 := hin.c 3
  simp only [List.getElem?_toArray, List.getElem?_cons_zero, List.getElem?_cons_succ] at n0 n1 n2 n3
  clear hin
  have hat : ∀ w, (Instr.arrayAt 80 (.slice (some ⟨B, 0, none⟩) 2 2)).run Tryd.prog w = .ok (.pointer (some ⟨B, 0, none⟩)) w := fun w => run_arrayAt w 80 _ 2 _ _ _ Tryd.underlying80 (by omega)
  go_enter Tryd.func56, Tryd.ntmps56
  go_wp2_with fail
  refine wp_region_tail 16 (by kernel_rfl) (by kernel_rfl) ?_
  simp only [List.take_succ_cons, List.take_zero, List.drop_succ_cons, List.drop_zero]
  repeat still_step
  refine wpStill_nil ?_
  go_wp2_with fail
  go_ret
  exact ⟨by first | rfl | simp, World.alloc_heap_new W.drew _, ((Below.refl _ W).drew.alloc (Nat.le_refl _) _)⟩

theorem Cop.later {W V w' : World} {T T' : TT} {o : Option Addr} (h : Cop V w' T T' o) (hb : Below W.heap.size W V) : Cop W w' T T' o :=
  ⟨h.p, h.al, h.inn, h.nd, fun c hc => Nat.le_trans hb.size (h.ge c hc), bthen hb h.bl⟩
theorem Cop.below {W w1 w' : World} {T T' : TT} {o : Option Addr} (h : Cop W w1 T T' o) (hb : Below w1.heap.size w1 w') : Cop W w' T T' o :=
  ⟨h.p, h.al, h.inn.below hb, h.nd, h.ge, bthen h.bl hb⟩
/-- two copies beneath a new node -/
theorem Cop.node {W w2 w3 w4 w5 : World} {b g : Nat} {k : Key} {o : Option Int} {l r l' r' : TT} {ol or : Option Addr} (hl : Cop W w2 l l' ol) (hr : Cop w2 w3 r r' or) (h4 : Below w3.heap.size w3 w4) (hg : w4.heap.size = g) (h5 : Below w4.heap.size w4 w5)
    (hn : w5.heap[g]? = some (.cells #[.int .u32 (ka k), .int .i64 k.length, .int .i64 (o.getD 0), .bool o.isSome, .pointer ol, .pointer or] 82 (0, 0))) :
    Cop W w5 (.node b k o l r) (.node g k o l' r') (some ⟨g, 0, none⟩) := by
  have h25 := bthen hr.bl (bthen h4 h5)
  have h35 := bthen h4 h5
  have z2 := hl.bl.size
  have z3 := hr.bl.size
  have z4 := h4.size
  refine ⟨rfl, ⟨rfl, rfl, hl.al, hr.al⟩, ⟨?_, hl.inn.below h25, hr.inn.below h35⟩, ?_, ?_, bthen hl.bl h25⟩
  · rw [hn]; simp [nodeO, hl.p, hr.p]
  · simp only [TT.blocks, List.nodup_cons, List.nodup_append, List.mem_append, not_or]
    refine ⟨⟨fun h => ?_, fun h => ?_⟩, hl.nd, hr.nd, ?_⟩
    · have := hl.inn.lt h; omega
    · have := hr.inn.lt h; omega
    · intro c hc c' hc' e
      subst e
      have h1 := hl.inn.lt hc
      have h2 := hr.ge _ hc'
      omega
  · intro c hc
    simp only [TT.blocks, List.mem_cons, List.mem_append] at hc
    rcases hc with rfl | hc | hc
    · omega
    · exact hl.ge c hc
    · have := hr.ge c hc; omega

set_option maxRecDepth 100000 in
set_option maxHeartbeats 4000000 in
theorem fold56_any (W0 : World) (b1 b2 : Nat) (hl1 : b1 < W0.heap.size) (hl2 : b2 < W0.heap.size) (h1 : W0.cell? ⟨b1, 0, none⟩ = some (.func (.func 56) #[] #[]))
    (h2 : W0.cell? ⟨b2, 0, none⟩ = some (.func (.func 74) #[] #[.pointer (some ⟨b1, 0, none⟩), .pointer (some ⟨b2, 0, none⟩)]))
    (T : TT) : ∀ W, T.In W0 → Below W0.heap.size W0 W →
      Calls Tryd.prog 74 #[T.ptr, .pointer (some ⟨b1, 0, none⟩), .pointer (some ⟨b2, 0, none⟩)] W fun e w' => ∃ o, e = .returned (.pointer o) ∧ ∃ T', Cop W w' T T' o := by
  induction T with
  | nil =>
    intro W _ hB
    simp only [TT.ptr]
    go_enter Tryd.func74, Tryd.ntmps74
    go_wp2_with fail
    go_ret
    exact ⟨_, rfl, .nil, ⟨rfl, trivial, trivial, by simp [TT.blocks], fun c hc => by simp [TT.blocks] at hc, Below.refl _ _⟩⟩
  | node b k o lc rc il ir =>
    intro W hin hB
    have hbl := hin.lt (b := b) (by simp [TT.blocks])
    have m4 := hin.c4
    have m5 := hin.c5
    have IL := Lib.hid (fun W => il W hin.2.1)
    have IR := Lib.hid (fun W => ir W hin.2.2)
    have HIn := Lib.hid hin
    have HB := Lib.hid hB
    have HCell := Lib.hid (show ∀ W', Below W0.heap.size W0 W' → W'.cell? ⟨b1, 0, none⟩ = some (.func (.func 56) #[] #[]) ∧ W'.cell? ⟨b2, 0, none⟩ = some (.func (.func 74) #[] #[.pointer (some ⟨b1, 0, none⟩), .pointer (some ⟨b2, 0, none⟩)]) ∧ W'.cell? ⟨b, 4, none⟩ = some lc.ptr ∧ W'.cell? ⟨b, 5, none⟩ = some rc.ptr from fun W' h =>
      ⟨(h.cell (p := ⟨b1, 0, none⟩) hl1).trans h1, (h.cell (p := ⟨b2, 0, none⟩) hl2).trans h2, (h.cell (p := ⟨b, 4, none⟩) hbl).trans m4, (h.cell (p := ⟨b, 5, none⟩) hbl).trans m5⟩)
    obtain ⟨e1, e2, e4, e5⟩ := HCell.out W hB
    have g1 : b1 < W.heap.size := Nat.lt_of_lt_of_le hl1 hB.size
    have g2 : b2 < W.heap.size := Nat.lt_of_lt_of_le hl2 hB.size
    have g3 : b < W.heap.size := Nat.lt_of_lt_of_le hbl hB.size
    rw [show (TT.node b k o lc rc).ptr = .pointer (some ⟨b, 0, none⟩) from rfl]
    clear il ir hin m4 m5 h1 h2 hB
    go_enter Tryd.func74, Tryd.ntmps74
    go_wp2_with fail
    go_region_held3 (fun w' => w'.cell? ⟨b1, 0, none⟩ = some (.func (.func 56) #[] #[]) ∧ w'.cell? ⟨b2, 0, none⟩ = some (.func (.func 74) #[] #[.pointer (some ⟨b1, 0, none⟩), .pointer (some ⟨b2, 0, none⟩)]) ∧ w'.cell? ⟨b, 4, none⟩ = some lc.ptr ∧ w'.cell? ⟨b, 5, none⟩ = some rc.ptr)
      (go_keep)
      (first
        | (go_at_call 74; with_reducible refine (IL.out _ (HB.out.drew)).mono ?_; rintro e w2 ⟨ol, rfl, L', hc2⟩; have HC2 := Lib.hid hc2; have hb2 := bthen HB.out.drew hc2.bl; have HB2 := Lib.hid hb2; obtain ⟨x1, x2, x4, x5⟩ := HCell.out _ hb2; have y1 := Nat.lt_of_lt_of_le hl1 hb2.size; have y2 := Nat.lt_of_lt_of_le hl2 hb2.size; have y3 := Nat.lt_of_lt_of_le hbl hb2.size; clear hb2 hc2)
        | (go_at_call 74; with_reducible refine (IR.out _ HB2.out).mono ?_; rintro e w3 ⟨or, rfl, R', hc3⟩; have HC3 := Lib.hid hc3; have hb3 := bthen HB2.out hc3.bl; have HB3 := Lib.hid hb3; obtain ⟨p1, p2, p4, p5⟩ := HCell.out _ hb3; have q1 := Nat.lt_of_lt_of_le hl1 hb3.size; have q2 := Nat.lt_of_lt_of_le hl2 hb3.size; have q3 := Nat.lt_of_lt_of_le hbl hb3.size; clear hb3 hc3)
        | (with_reducible refine (Copy1_any b k o lc rc (w3.alloc (Obj.cells #[.pointer ol, .pointer or] 79)) w3.heap.size ol or (HIn.out.below (HB3.out.alloc HB3.out.size _)) (by simp [go_sem]) (by simp [go_sem])).mono ?_; rintro e w4 ⟨rfl, hn4, hb4⟩; have HB4 := Lib.hid hb4; have HN4 := Lib.hid hn4; have hb5 := (HB3.out.alloc HB3.out.size (Obj.cells #[.pointer ol, .pointer or] 79)).trans (hb4.mono (by have := HB3.out.size; simp; omega)); obtain ⟨r1, r2, r4, r5⟩ := HCell.out _ hb5; clear hb4 hb5 hn4))
    all_goals
      go_wp2_with fail
      go_ret
      exact ⟨_, rfl, .node _ k o L' R', Cop.node (HC2.out.later (Below.refl _ W).drew) HC3.out ((Below.refl _ _).alloc (Nat.le_refl _) _) (by simp) HB4.out (by have := HN4.out; rwa [World.size_alloc] at this)⟩

set_option maxRecDepth 100000 in
set_option maxHeartbeats 4000000 in
theorem folded56 (T : TT) (w : World) (hin : T.In w) :
    Calls Tryd.prog 55 #[T.ptr, .func (.func 56) #[] #[]] w fun e w' => ∃ o, e = .returned (.pointer o) ∧ ∃ T', Cop w w' T T' o := by
  have HIn := Lib.hid hin
  clear hin
  go_enter Tryd.func55, Tryd.ntmps55
  go_upto_region 3 with fail
  generalize hX : ((w.alloc (Obj.cells #[Value.func (Fn.func 56) #[] #[]] 102)).alloc (Obj.cells #[Value.func (Fn.func 74) #[] #[.pointer (some ⟨w.heap.size, 0, none⟩), .pointer (some ⟨w.heap.size + 1, 0, none⟩)]] 124)) = X
  have hB : Below w.heap.size w X := by subst hX; exact ((Below.refl _ _).alloc (Nat.le_refl _) _).alloc (by simp) _
  have x1 : X.cell? ⟨w.heap.size, 0, none⟩ = some (.func (.func 56) #[] #[]) := by subst hX; simp [go_sem]
  have x2 : X.cell? ⟨w.heap.size + 1, 0, none⟩ = some (.func (.func 74) #[] #[.pointer (some ⟨w.heap.size, 0, none⟩), .pointer (some ⟨w.heap.size + 1, 0, none⟩)]) := by subst hX; simp [go_sem]
  have hs : X.heap.size = w.heap.size + 2 := by subst hX; simp
  clear hX
  have HL := Lib.hid (fold56_any X w.heap.size (w.heap.size + 1) (by omega) (by omega) x1 x2 T X (HIn.out.below hB) (Below.refl _ _))
  have HB := Lib.hid hB
  clear hB x1
  go_wp2_with (go_at_call 74; with_reducible refine HL.out.mono ?_; rintro e w2 ⟨o, rfl, T', hc⟩; have HC := Lib.hid hc; clear hc)
  go_ret
  exact ⟨_, rfl, T', HC.out.later HB.out⟩

set_option maxRecDepth 100000 in
set_option maxHeartbeats 4000000 in
theorem Copy_any (q : Nat) (t : TT) (w : World) (h : TrS w q t) :
    Calls Tryd.prog 31 #[.pointer (some ⟨q, 0, none⟩)] w fun e w' => ∃ q' t', e = .returned (.pointer (some ⟨q', 0, none⟩)) ∧ TrS w' q' t' ∧ t'.rows = t.rows ∧ (∀ c ∈ q' :: t'.blocks, w.heap.size ≤ c) ∧ Below w.heap.size w w' := by
  have HN := Lib.hid (none_t q t w h)
  have c0 := h.c0
  have c1 := h.c1
  have HF := Lib.hid (folded56 t w h.here)
  have HT := Lib.hid h
  have hq := h.lt
  clear h
  go_enter Tryd.func31, Tryd.ntmps31
  go_wp2_with (first
    | (go_at_call 34; with_reducible refine HN.out.mono ?_; rintro e w' ⟨rfl, rfl⟩)
    | (go_at_call 55; with_reducible refine HF.out.mono ?_; rintro e w2 ⟨o, rfl, t', hc⟩; have HC := Lib.hid hc; clear c0 c1; have c0 := (HT.out.below hc.bl).c0; have c1 := (HT.out.below hc.bl).c1; clear hc)
    | fail)
  go_ret
  have hal := HC.out.al.rows
  have hb := HC.out.bl.alloc HC.out.bl.size (.cells #[.pointer o, .int .i64 t.rows.length, .bool true] 84)
  refine ⟨_, t', rfl, ⟨?_, HC.out.inn.below ((Below.refl _ _).alloc (Nat.le_refl _) _), ?_, HC.out.al.wf HT.out.wf⟩, hal.1.symm, ?_, hb⟩
  · rw [HC.out.p, ← hal.1]
    exact World.alloc_heap_new w2 _
  · refine List.nodup_cons.2 ⟨fun hm => ?_, HC.out.nd⟩
    have := HC.out.inn.lt hm
    omega
  · intro c hc
    rcases List.mem_cons.1 hc with rfl | hc
    · exact HC.out.bl.size
    · exact HC.out.ge c hc
end Go.Proofs.YtbacahoihkpkpaaDoor
