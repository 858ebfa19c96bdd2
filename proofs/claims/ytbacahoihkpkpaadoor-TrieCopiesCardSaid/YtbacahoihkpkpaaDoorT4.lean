/- Contract: trie.place. -/
import Derived.Test.YtbacahoihkpkpaaDoorT3
import Derived.Test.YtbacahoihkpkpaaDoorD2
namespace Go.Proofs.YtbacahoihkpkpaaDoor
open Go.RowKit Go.Shelf

attribute [local go_sem] Oper.semAt_some

theorem heapA (w : World) (o : Obj) (k : Nat) : (w.alloc o).heap[k]? = if k = w.heap.size then some o else w.heap[k]? := by
  unfold World.alloc
  simp only [Array.getElem?_push]
/-- a box of one cell -/
def OneB (W : World) (b : Nat) (v : Value) (t : TypeId) : Prop := W.heap[b]? = some (.cells #[v] t (0, 0))
theorem OneB.lt {W : World} {b : Nat} {v : Value} {t : TypeId} (h : OneB W b v t) : b < W.heap.size := (Array.getElem?_eq_some_iff.1 h).1
theorem OneB.c {W : World} {b : Nat} {v : Value} {t : TypeId} (h : OneB W b v t) : W.cell? ⟨b, 0, none⟩ = some v := by simp [World.cell?, show W.heap[b]? = _ from h]
theorem OneB.f {W : World} {b : Nat} {v : Value} {t : TypeId} (h : OneB W b v t) : W.frozen? ⟨b, 0, none⟩ = false := by simp [World.frozen?, show W.heap[b]? = _ from h]
theorem OneB.new (W : World) (v : Value) (t : TypeId) : OneB (W.alloc (.cells #[v] t)) W.heap.size v t := World.alloc_heap_new W _
theorem OneB.below {W W' : World} {b : Nat} {v : Value} {t : TypeId} (h : OneB W b v t) (hb : Below W.heap.size W W') : OneB W' b v t := (hb.block b h.lt).trans h
theorem OneB.alloc {W : World} {b : Nat} {v : Value} {t : TypeId} (h : OneB W b v t) (o : Obj) : OneB (W.alloc o) b v t := h.below ((Below.refl _ W).alloc (Nat.le_refl _) o)
theorem OneB.drewN {W : World} {b : Nat} {v : Value} {t : TypeId} (h : OneB W b v t) (n : Nat) : OneB (W.drewN n) b v t := h
theorem OneB.drew {W : World} {b : Nat} {v : Value} {t : TypeId} (h : OneB W b v t) : OneB W.drew b v t := h
theorem OneB.other {W : World} {b b' o : Nat} {v u : Value} {t : TypeId} (h : OneB W b v t) (hne : b ≠ b') : OneB (W.setCell ⟨b', o, none⟩ u) b v t := (Below.heap_setCell W _ u b hne).trans h
theorem OneB.set {W : World} {b : Nat} {v : Value} {t : TypeId} (u : Value) (h : OneB W b v t) : OneB (W.setCell ⟨b, 0, none⟩ u) b u t := heap_set1 _ h
theorem oneB_own {β : Type} (b : Nat) (t : TypeId) (f : β → Value) : Own (fun s W => OneB W b (f s) t) := fun s X Y row hs hg hrow =>
  (hg.block b (OneB.lt hs) (fun e' => by obtain ⟨o, ho, hc⟩ := hrow b e'.symm; rw [show X.heap[b]? = _ from hs] at ho; cases ho; cases hc)).trans hs
theorem keeps_drewN (W : World) (n : Nat) : KeepsOthers W (W.drewN n) := ⟨Nat.le_refl _, fun _ _ h _ => h⟩
theorem keeps_drew (W : World) : KeepsOthers W W.drew := ⟨Nat.le_refl _, fun _ _ h _ => h⟩
theorem kpS_set {S : List Nat} (W : World) (b o : Nat) (v : Value) (hb : b ∉ S) : KpS S W (W.setCell ⟨b, o, none⟩ v) := fun c hc => Below.heap_setCell W _ v c (fun e => hb (by rw [← show c = b from e]; exact hc))

theorem PBox.drew1 {W : World} {B : Nat} {a n : Int} (h : PBox W B a n) : PBox W.drew B a n := h
theorem Bit_s0 (p : Key) (j : Nat) (w : World) (hj : j < 32) (h : p.getD j false = false) : Calls Tryd.prog 61 #[.int .u32 (ka p), .int .i64 j] w fun e w' => e = .returned (.int .i64 0) ∧ w' = w :=
  (Bit_any (ka p) j _ (ka_0 p) (ka_1 p)).mono fun _ _ ⟨he, hw⟩ => ⟨by rw [he, ka_bitI hj, h]; rfl, hw.symm⟩
theorem Bit_s1 (p : Key) (j : Nat) (w : World) (hj : j < 32) (h : p.getD j false = true) : Calls Tryd.prog 61 #[.int .u32 (ka p), .int .i64 j] w fun e w' => e = .returned (.int .i64 1) ∧ w' = w :=
  (Bit_any (ka p) j _ (ka_0 p) (ka_1 p)).mono fun _ _ ⟨he, hw⟩ => ⟨by rw [he, ka_bitI hj, h]; rfl, hw.symm⟩
/-- the key of a node on the way; where the way goes on behind it -/
def TT.kl : TT → Nat
  | .nil => 0
  | .node _ k _ _ _ => k.length
def nextA (p : Key) : TT → Addr
  | .nil => ⟨0, 0, none⟩
  | .node b k _ _ _ => if p.getD k.length false then ⟨b, 5, none⟩ else ⟨b, 4, none⟩
theorem way_stop {t : TT} {p : Key} {a : Addr} {y : Addr × TT} (h : y ∈ t.way p a) (hl : y.2.kl = p.length) : t.place p a = y.1 ∧ y.2 = t.spot p := by
  induction t generalizing a with
  | nil => simp [TT.way] at h
  | node b k o l r il ir =>
    simp only [TT.way, TT.place, TT.spot] at h ⊢
    by_cases hk : k <+: p
    · rw [if_pos hk] at h
      simp only [if_pos hk]
      rcases List.mem_cons.1 h with rfl | h
      · simp only [TT.kl] at hl
        simp [hl]
      · by_cases hkl : k.length = p.length
        · rw [if_pos hkl] at h; simp at h
        · rw [if_neg hkl] at h
          simp only [if_neg hkl]
          cases hb : p.getD k.length false with
          | true => simp only [hb, if_true] at h ⊢; exact ir h
          | false => simp only [hb, Bool.false_eq_true, if_false] at h ⊢; exact il h
    · rw [if_neg hk] at h; simp at h
theorem way_done {t : TT} {p : Key} {a : Addr} (h : ∀ y ∈ t.way p a, y.2.kl ≠ p.length) : t.place p a = (match (t.way p a).getLast? with | none => a | some y => nextA p y.2) := by
  induction t generalizing a with
  | nil => rfl
  | node b k o l r il ir =>
    simp only [TT.way, TT.place] at h ⊢
    by_cases hk : k <+: p
    · rw [if_pos hk] at h ⊢
      rw [if_pos hk]
      have hkl : k.length ≠ p.length := h (a, .node b k o l r) (by simp)
      rw [if_neg hkl] at h ⊢
      rw [if_neg hkl]
      cases hb : p.getD k.length false with
      | true =>
        simp only [hb, if_true] at h ⊢
        have := ir (a := ⟨b, 5, none⟩) (fun y hy => h y (List.mem_cons_of_mem _ hy))
        rw [this, List.getLast?_cons]
        cases (r.way p ⟨b, 5, none⟩).getLast? <;> simp only [nextA, hb, Option.getD] <;> rfl
      | false =>
        simp only [hb, Bool.false_eq_true, if_false] at h ⊢
        have := il (a := ⟨b, 4, none⟩) (fun y hy => h y (List.mem_cons_of_mem _ hy))
        rw [this, List.getLast?_cons]
        cases (l.way p ⟨b, 4, none⟩).getLast? <;> simp only [nextA, hb, Option.getD] <;> rfl
    · rw [if_neg hk, if_neg hk]
      rfl
/-- a node on the way lies in memory, at its place -/
theorem way_at {W : World} {t : TT} {p : Key} {a : Addr} (h : TAt W a t) (ha : a.spot = none) {y : Addr × TT} (hy : y ∈ t.way p a) : TAt W y.1 y.2 ∧ y.1.spot = none ∧ (y.1.block = a.block ∨ y.1.block ∈ t.blocks) ∧ (∀ c ∈ y.2.blocks, c ∈ t.blocks) ∧
    ∃ b k o l r, y.2 = .node b k o l r ∧ k <+: p := by
  induction t generalizing a with
  | nil => simp [TT.way] at hy
  | node b k o l r il ir =>
    simp only [TT.way] at hy
    by_cases hk : k <+: p
    · rw [if_pos hk] at hy
      rcases List.mem_cons.1 hy with rfl | hy
      · exact ⟨h, ha, .inl rfl, fun c hc => hc, b, k, o, l, r, rfl, hk⟩
      · by_cases hkl : k.length = p.length
        · rw [if_pos hkl] at hy; simp at hy
        · rw [if_neg hkl] at hy
          cases hb : p.getD k.length false with
          | true =>
            simp only [hb, if_true] at hy
            obtain ⟨h1, h2, h3, h4, h5⟩ := ir h.r rfl hy
            refine ⟨h1, h2, .inr ?_, fun c hc => by simp [TT.blocks, h4 c hc], h5⟩
            rcases h3 with h3 | h3
            · rw [h3]; simp [TT.blocks]
            · simp [TT.blocks, h3]
          | false =>
            simp only [hb, Bool.false_eq_true, if_false] at hy
            obtain ⟨h1, h2, h3, h4, h5⟩ := il h.l rfl hy
            refine ⟨h1, h2, .inr ?_, fun c hc => by simp [TT.blocks, h4 c hc], h5⟩
            rcases h3 with h3 | h3
            · rw [h3]; simp [TT.blocks]
            · simp [TT.blocks, h3]
    · rw [if_neg hk] at hy; simp at hy
theorem wayAt_mem (t : TT) (p : Key) (q : Nat) (x : Fin (wayQ t p q).length) : wayAt t p q x ∈ t.way p ⟨q, 0, none⟩ := List.getElem_mem _

/-- where the walk stands behind these rounds -/
def standA (t : TT) (p : Key) (q : Nat) (pre : List (Fin (wayQ t p q).length)) : Addr := match pre.getLast? with
  | none => ⟨q, 0, none⟩
  | some x => nextA p (wayAt t p q x).2
theorem standA_snoc (t : TT) (p : Key) (q : Nat) (pre : List (Fin (wayQ t p q).length)) (x : Fin (wayQ t p q).length) : standA t p q (pre ++ [x]) = nextA p (wayAt t p q x).2 := by simp [standA]
theorem standA_all (t : TT) (p : Key) (q : Nat) (h : ∀ x : Fin (wayQ t p q).length, (wayAt t p q x).2.kl ≠ p.length) : standA t p q (upF (wayQ t p q).length (wayQ t p q).length) = t.place p ⟨q, 0, none⟩ := by
  have hm : (upF (wayQ t p q).length (wayQ t p q).length).map (wayAt t p q) = wayQ t p q := by
    unfold upF
    rw [List.take_of_length_le (by simp)]
    refine List.ext_getElem (by simp) fun i h1 h2 => ?_
    simp [wayAt]
  have hd := way_done (t := t) (p := p) (a := ⟨q, 0, none⟩) (fun y hy => by
    obtain ⟨i, hi, rfl⟩ := List.getElem_of_mem hy
    exact h ⟨i, hi⟩)
  rw [hd]
  unfold standA
  have e : (wayQ t p q).getLast? = (upF (wayQ t p q).length (wayQ t p q).length).getLast?.map (wayAt t p q) := by
    rw [← List.getLast?_map, hm]
  rw [show (t.way p ⟨q, 0, none⟩).getLast? = _ from e]
  cases (upF (wayQ t p q).length (wayQ t p q).length).getLast? <;> rfl

def pI (t : TT) (p : Key) (q Ba : Nat) (w : World) (pre : List (Fin (wayQ t p q).length)) (W : World) : Prop :=
  (((∀ x ∈ pre, (wayAt t p q x).2.kl ≠ p.length) ∧ OneB W Ba (.pointer (some (standA t p q pre))) 77) ∧ PBox W w.heap.size (ka p) p.length) ∧ Below w.heap.size w W
def pX (t : TT) (p : Key) (q Ba : Nat) (w : World) (c : Code) (_ : List (Fin (wayQ t p q).length)) (W : World) : Prop :=
  ((c = Code.exit 0 ∧ ∃ x : Fin (wayQ t p q).length, (wayAt t p q x).2.kl = p.length) ∧ OneB W Ba (.pointer (some (t.place p ⟨q, 0, none⟩))) 77) ∧ Below w.heap.size w W
theorem pI_own (t : TT) (p : Key) (q Ba : Nat) (w : World) (n : Nat) (hn : w.heap.size ≤ n) : OwnFrom n (pI t p q Ba w) :=
  OwnFrom.and (OwnFrom.and (OwnFrom.and (fun _ _ _ _ hs _ _ => hs) (Own.from (oneB_own Ba 77 (fun pre => .pointer (some (standA t p q pre)))) _)) (Own.from (pbox_own _ (fun _ => ka p) (fun _ => (p.length : Int))) _)) (ownFrom_below (Nat.le_refl _) hn)
theorem pX_own (t : TT) (p : Key) (q Ba : Nat) (w : World) (n : Nat) (hn : w.heap.size ≤ n) (c : Code) : OwnFrom n (pX t p q Ba w c) :=
  OwnFrom.and (OwnFrom.and (fun _ _ _ _ hs _ _ => hs) (Own.from (oneB_own Ba 77 (fun _ => .pointer (some (t.place p ⟨q, 0, none⟩)))) _)) (ownFrom_below (Nat.le_refl _) hn)
theorem below_keeps' {W W' : World} (h : Below W.heap.size W W') : KeepsOthers W W' := KeepsOthers.of_grownBy (below_grownBy h) (by simp)

set_option maxRecDepth 100000 in
set_option maxHeartbeats 2000000 in
theorem place_any (q : Nat) (p : Key) (t : TT) (hp : p.length ≤ 32) (hlen : ∀ x ∈ t.keys, x.length ≤ 32) (w : World) (hT : TAt w ⟨q, 0, none⟩ t) (hq : q < w.heap.size) (hR : RelsAt w) :
    Calls Tryd.prog 38 #[.pointer (some ⟨q, 0, none⟩), .agg #[.int .u32 (ka p), .int .i64 p.length]] w fun e w' => e = .returned (.pointer (some (t.place p ⟨q, 0, none⟩))) ∧ Below w.heap.size w w' := by
  have h0 : 0 < w.heap.size := World.block_lt_of_cell? w _ hR.c0
  have HT := Lib.hid hT
  have HR := Lib.hid hR
  have Hlen := Lib.hid hlen
  clear hT hR hlen
  refine (callsIn_wide (n := 3)).1 ?_
  refine callsIn_of_wp_marks Tryd.func38 rfl trivial ?_ rfl
  simp only [Tryd.ntmps38, List.size_toArray, List.length_cons, List.length_nil, Nat.reduceAdd, Nat.reduceSub, Array.replicate_succ, Array.replicate_zero, List.push_toArray, List.append_toArray, List.nil_append, List.cons_append]
  refine wpIn_wide.2 ?_
  go_wp2_with fail
  go_step3
  go_wp2_with fail
  refine wp_label ?_
  go_wp2_with fail
  refine (down_any q p _).mono ?_
  rintro e w2 ⟨rfl, rfl⟩
  go_wp2_with fail
  refine (wpIn_wide (n := 3)).1 ?_
  generalize hW : ((((w.alloc (Obj.cells #[Value.int IntKind.u32 (ka p), Value.int IntKind.i64 p.length] 26)).alloc (Obj.cells #[Value.pointer (some ⟨q, 0, none⟩)] 77)).alloc (Obj.cells #[Value.pointer (some ⟨q, 0, none⟩)] 28)).alloc (Obj.cells #[Value.int IntKind.u32 (ka p), Value.int IntKind.i64 p.length] 26)) = W
  have hB : Below w.heap.size w W := by subst hW; exact (((((Below.refl _ _).alloc (Nat.le_refl _) _).alloc (by simp) _).alloc (by simp; omega) _).alloc (by simp; omega) _)
  have hsz : W.heap.size = w.heap.size + 1 + 1 + 1 + 1 := by subst hW; simp
  have hp0 : W.heap[w.heap.size]? = some (.cells #[.int .u32 (ka p), .int .i64 p.length] 26) := by subst hW; simp only [heapA, World.size_alloc]; repeat (first | rw [if_pos trivial] | rw [if_neg (by omega)])
  have hat : OneB W (w.heap.size + 1) (.pointer (some ⟨q, 0, none⟩)) 77 := by subst hW; unfold OneB; simp only [heapA, World.size_alloc]; repeat (first | rw [if_pos trivial] | rw [if_neg (by omega)])
  have hBq : W.heap[w.heap.size + 1 + 1]? = some (.cells #[.pointer (some ⟨q, 0, none⟩)] 28) := by subst hW; simp only [heapA, World.size_alloc]; repeat (first | rw [if_pos trivial] | rw [if_neg (by omega)])
  have hBp : W.heap[w.heap.size + 1 + 1 + 1]? = some (.cells #[.int .u32 (ka p), .int .i64 p.length] 26) := by subst hW; simp only [heapA, World.size_alloc]; repeat (first | rw [if_pos trivial] | rw [if_neg (by omega)])
  clear hW
  have hTW : TAt W ⟨q, 0, none⟩ t := HT.out.below hq rfl hB
  have hRW := HR.out.below hB
  have hblt : ∀ c ∈ t.blocks, c < w.heap.size := fun c hc => HT.out.2.lt hc
  have hS : ∀ c ∈ (w.heap.size + 1 + 1 + 1) :: 0 :: q :: w.heap.size :: t.blocks, c < W.heap.size := by
    intro c hc
    simp only [List.mem_cons] at hc
    rcases hc with rfl | rfl | rfl | rfl | hc
    · omega
    · omega
    · omega
    · omega
    · have := hblt c hc; omega
  have hnb : w.heap.size + 1 ∉ (w.heap.size + 1 + 1 + 1) :: 0 :: q :: w.heap.size :: t.blocks := by
    intro hc
    simp only [List.mem_cons] at hc
    rcases hc with h | h | h | h | h
    · omega
    · omega
    · omega
    · omega
    · have := hblt _ h; omega
  have Hblt := Lib.hid hblt
  have Hnb := Lib.hid hnb
  have HS := Lib.hid hS
  clear hblt hnb hS
  refine wpIn_rangeFunc_ownH rfl (by omega) (gf := 75) (lb := #[.pointer (some ⟨w.heap.size + 1 + 1, 0, none⟩), .pointer (some ⟨w.heap.size + 1 + 1 + 1, 0, none⟩)]) rfl trivial (enters_of Tryd.func75 (by kernel_rfl) rfl)
    (down_stops (3 - 1) _ _ q p t _ hp Hlen.out W hBq hBp hTW hRW HS.out (by simp) (by simp) (fun c hc => by simp [hc]) (by simp)) kpS_t (kpS_b HS.out) (Below.refl _ _) (fun _ => rfl)
    (pI t p q (w.heap.size + 1) w) (pX t p q (w.heap.size + 1) w) (pI_own _ _ _ _ _ _ (by omega)) (pX_own _ _ _ _ _ _ (by omega))
    ⟨⟨⟨fun _ h => by simp at h, hat⟩, hp0⟩, hB⟩
    (fun x a' _ => a' = { tmps := #[.pointer (some ⟨q, 0, none⟩), .agg #[.int .u32 (ka p), .int .i64 p.length], undef, .pointer (some ⟨w.heap.size, 0, none⟩), .pointer none, .pointer (some ⟨w.heap.size + 1, 0, none⟩), .pointer (some (wayAt t p q x).1), .pointer (some ⟨q, 0, none⟩), .pointer (some ⟨q, 0, none⟩), .pointer (some ⟨q, 0, none⟩), .pointer (some ⟨q, 0, none⟩), .agg #[.int .u32 (ka p), .int .i64 p.length], .func (.func 75) #[] #[.pointer (some ⟨w.heap.size + 1 + 1, 0, none⟩), .pointer (some ⟨w.heap.size + 1 + 1 + 1, 0, none⟩)], .pointer (some (wayAt t p q x).1), undef, undef, undef, undef, undef, undef, undef, undef, undef, undef, undef, undef, undef, undef, undef, undef, undef, undef, undef, undef, undef, undef, undef, undef, undef, undef, undef, undef], defers := [] })
    (fun _ _ _ _ _ _ hs _ _ => hs) ?assign ?body ?done ?stop
  case assign =>
    rintro l pre x W1 K hI hK
    unfold encD
    gi_wp2_with fail
    exact hK _ _ ((KeepsOthers.refl _).from _) (fun _ _ => rfl) hI rfl
  case body =>
    rintro l pre x a' W1 hl' ⟨r, hr⟩ ⟨⟨⟨hne, h1⟩, hpb⟩, hB1⟩ rfl hlt
    obtain ⟨hA, hsp, hblk, hbl, b, k, o, lc, rc, hnode, hkp⟩ := way_at HT.out rfl (wayAt_mem t p q x)
    have hst := way_stop (wayAt_mem t p q x)
    obtain ⟨y, hy⟩ : ∃ y, wayAt t p q x = y := ⟨_, rfl⟩
    rw [hy] at hA hsp hblk hbl hnode hst ⊢
    obtain ⟨⟨ab, ao, asp⟩, s⟩ := y
    simp only at hA hsp hblk hbl hnode hst ⊢
    subst hsp hnode
    have hab : ab < w.heap.size := by
      rcases hblk with h | h
      · rw [h]; exact hq
      · exact Hblt.out _ h
    have hA1 := hA.below hab rfl hB1
    have ca := hA1.1
    have n0 := hA1.2.c0
    have n1 := hA1.2.c1
    have p0 := hpb.c0
    have p1 := hpb.c1
    have o1 := h1.c
    have f1 := h1.f
    have hk32 : k.length ≤ 32 := by have := hkp.length_le; omega
    simp only [TT.ptr] at ca
    have HA := Lib.hid hA1
    have HB1 := Lib.hid hB1
    have H1 := Lib.hid h1
    have Hpb := Lib.hid hpb
    have Hne := Lib.hid hne
    have Hst := Lib.hid hst
    have Hy := Lib.hid hy
    have Hkp := Lib.hid hkp
    have Hr := Lib.hid hr
    have HTW := Lib.hid hTW
    have HRW := Lib.hid hRW
    have HBW := Lib.hid hB
    have Hq1 := Lib.hid hBq
    have Hp1 := Lib.hid hBp
    clear hA hA1 hB1 h1 hpb hne hst hkp hr hblk hbl hTW hRW hB hBq hBp hat hp0 hy
    by_cases hl : k.length = p.length
    · have t1 : ((k.length : Int) == (p.length : Int)) = true := by simp [hl]
      have t2 : (k.length == p.length) = true := by simp [hl]
      have Hl := Lib.hid hl
      clear hl
      gi_wp2_with fail
      refine wpIn_quiet_round (n := 0) (by kernel_rfl) (by kernel_rfl) (by kernel_rfl) (fun ⟨_, _, h⟩ => h) ?_
      repeat (first | go_big_quiet_step (fail) | quiet_step (fail))
      refine wpQuiet_nil ?_
      rintro _ ⟨nq, rfl⟩
      gi_wp2_with fail
      have hs1 := Hst.out Hl.out
      refine ⟨((keeps_drewN _ _).trans (KeepsOthers.setCell _ _ _)).from _, ⟨⟨⟨rfl, x, by rw [Hy.out]; exact Hl.out⟩, ?_⟩, (below_drewN HB1.out nq).setCell (p := ⟨w.heap.size + 1, 0, none⟩) (by simp) _⟩⟩
      rw [hs1.1]
      exact (H1.out.drewN nq).set _
    · have hkl := Hkp.out.length_le
      have hk31 : k.length < 32 := by omega
      have t1 : ((k.length : Int) == (p.length : Int)) = false := by simp; omega
      have t2 : (k.length == p.length) = false := by simp [hl]
      have Hl := Lib.hid hl
      clear hl
      gi_wp2_with fail
      refine wpIn_quiet_round (n := 0) (by kernel_rfl) (by kernel_rfl) (by kernel_rfl) (fun ⟨_, _, h⟩ => h) ?_
      repeat (first | go_big_quiet_step (fail) | quiet_step (fail))
      refine wpQuiet_nil ?_
      rintro _ ⟨nq, rfl⟩
      gi_wp2_with fail
      cases hbit : p.getD k.length false
      · have HBit := Lib.hid hbit
        clear hbit
        refine wpIn_tail_round (m := 0) 16 (by kernel_rfl) (by kernel_rfl) (by kernel_rfl) (fun ⟨_, _, h⟩ => h) ?_
        simp only [List.take_succ_cons, List.take_zero, List.drop_succ_cons, List.drop_zero]
        iterate 12 still_step
        still_call (Bit_s0 p k.length _ hk31 HBit.out)
        repeat still_step
        refine wpStill_nil ?_
        go_wp2_with fail
        refine ⟨(((keeps_drewN _ _).trans (keeps_drew _)).trans (KeepsOthers.setCell _ _ _)).from _, kpS_t (fun _ _ => rfl) (kpS_set _ _ _ _ Hnb.out), ⟨⟨⟨?_, ?_⟩, ?_⟩, ?_⟩⟩
        · intro y hy
          rcases List.mem_append.1 hy with hy | hy
          · exact Hne.out y hy
          · rw [List.mem_singleton.1 hy, Hy.out]; exact Hl.out
        · have e : standA t p q (pre ++ [x]) = ⟨b, 4, none⟩ := by rw [standA_snoc, Hy.out]; simp only [nextA, HBit.out]; rfl
          rw [e]
          exact ((H1.out.drewN nq).drew).set _
        · exact (Hpb.out.below (below_drewN (Below.refl _ _) _)).drew1.other (by omega)
        · exact ((below_drewN HB1.out nq).drew).setCell (p := ⟨w.heap.size + 1, 0, none⟩) (by simp) _
      · have HBit := Lib.hid hbit
        clear hbit
        refine wpIn_tail_round (m := 0) 16 (by kernel_rfl) (by kernel_rfl) (by kernel_rfl) (fun ⟨_, _, h⟩ => h) ?_
        simp only [List.take_succ_cons, List.take_zero, List.drop_succ_cons, List.drop_zero]
        iterate 12 still_step
        still_call (Bit_s1 p k.length _ hk31 HBit.out)
        repeat still_step
        refine wpStill_nil ?_
        go_wp2_with fail
        refine ⟨(((keeps_drewN _ _).trans (keeps_drew _)).trans (KeepsOthers.setCell _ _ _)).from _, kpS_t (fun _ _ => rfl) (kpS_set _ _ _ _ Hnb.out), ⟨⟨⟨?_, ?_⟩, ?_⟩, ?_⟩⟩
        · intro y hy
          rcases List.mem_append.1 hy with hy | hy
          · exact Hne.out y hy
          · rw [List.mem_singleton.1 hy, Hy.out]; exact Hl.out
        · have e : standA t p q (pre ++ [x]) = ⟨b, 5, none⟩ := by rw [standA_snoc, Hy.out]; simp only [nextA, HBit.out]; rfl
          rw [e]
          exact ((H1.out.drewN nq).drew).set _
        · exact (Hpb.out.below (below_drewN (Below.refl _ _) _)).drew1.other (by omega)
        · exact ((below_drewN HB1.out nq).drew).setCell (p := ⟨w.heap.size + 1, 0, none⟩) (by simp) _
  case done =>
    rintro D xs W1 hD rfl ⟨⟨⟨hne, h1⟩, hpb⟩, hB1⟩ hK
    have x0 := h1.c
    go_wp2_with fail
    rw [Exit.noGoto_ret]
    have hall : ∀ x : Fin (wayQ t p q).length, (wayAt t p q x).2.kl ≠ p.length := fun x => hne x (by unfold upF; rw [List.take_of_length_le (by simp)]; simp)
    have hst := standA_all t p q hall
    refine ⟨by simp, .inl ⟨_, _, rfl, run_takeDeferred hK, ?_⟩⟩
    refine ⟨.pointer (some (t.place p ⟨q, 0, none⟩)), by simp [results, Tryd.results38, go_sem, hst], rfl, ?_⟩
    exact hB1.trans (belowK_b (w := w) (Nat.le_refl _) W1 D _ (.deferred none) (by omega) hK rfl rfl)
  case stop =>
    rintro D c pre W1 hD ⟨k, hk, hkp⟩ ⟨⟨⟨rfl, x, hx⟩, h1⟩, hB1⟩ hK
    have x0 := h1.c
    refine wpIn_wide.2 ?_
    go_wp2_with fail
    rw [Exit.noGoto_ret]
    refine ⟨by simp, .inl ⟨_, _, rfl, run_takeDeferred hK, ?_⟩⟩
    refine ⟨.pointer (some (t.place p ⟨q, 0, none⟩)), by simp [results, Tryd.results38, go_sem], rfl, ?_⟩
    exact hB1.trans (belowK_b (w := w) (Nat.le_refl _) W1 D _ (.deferred none) (by omega) hK rfl rfl)
end Go.Proofs.YtbacahoihkpkpaaDoor
