/- Merged: T1 T2. -/
import Derived.Test.YtbacahoihkpkpaaDoorQ4
import Derived.Test.YtbacahoihkpkpaaDoorQ3
import Derived.Test.YtbacahoihkpkpaaDoorE3
/- The trie in memory: nodes, places, what a write at a place makes of it. -/
namespace Go.Proofs.YtbacahoihkpkpaaDoor
open Go.RowKit

def TT.ptr : TT → Value
  | .nil => .pointer none
  | .node b _ _ _ _ => .pointer (some ⟨b, 0, none⟩)
theorem TT.ptr_nil {t : TT} (h : t.ptr = .pointer none) : t = .nil := by cases t <;> simp [TT.ptr] at h ⊢
def nodeO (k : Key) (o : Option Int) (l r : TT) : Obj := .cells #[.int .u32 (ka k), .int .i64 k.length, .int .i64 (o.getD 0), .bool o.isSome, l.ptr, r.ptr] 82 (0, 0)
def TT.In (W : World) : TT → Prop
  | .nil => True
  | .node b k o l r => W.heap[b]? = some (nodeO k o l r) ∧ l.In W ∧ r.In W
theorem TT.In.of_blocks {W W' : World} {t : TT} (h : t.In W) (he : ∀ b ∈ t.blocks, W'.heap[b]? = W.heap[b]?) : t.In W' := by
  induction t with
  | nil => trivial
  | node b k o l r il ir =>
    obtain ⟨h1, h2, h3⟩ := h
    exact ⟨(he b (by simp [TT.blocks])).trans h1, il h2 fun c hc => he c (by simp [TT.blocks, hc]), ir h3 fun c hc => he c (by simp [TT.blocks, hc])⟩
theorem TT.In.lt {W : World} {t : TT} (h : t.In W) {b : Nat} (hb : b ∈ t.blocks) : b < W.heap.size := by
  induction t with
  | nil => simp [TT.blocks] at hb
  | node c k o l r il ir =>
    obtain ⟨h1, h2, h3⟩ := h
    simp only [TT.blocks, List.mem_cons, List.mem_append] at hb
    rcases hb with rfl | hb | hb
    · exact (Array.getElem?_eq_some_iff.1 h1).1
    · exact il h2 hb
    · exact ir h3 hb
theorem TT.In.below {W W' : World} {t : TT} (h : t.In W) (hb : Below W.heap.size W W') : t.In W' := h.of_blocks fun b hbm => hb.block b (h.lt hbm)
theorem TT.In.c {W : World} {b : Nat} {k : Key} {o : Option Int} {l r : TT} (h : (TT.node b k o l r).In W) (i : Nat) : W.cell? ⟨b, i, none⟩ = (#[.int .u32 (ka k), .int .i64 k.length, .int .i64 (o.getD 0), .bool o.isSome, l.ptr, r.ptr] : Array Value)[i]? := by
  simp [World.cell?, h.1, nodeO]
theorem TT.In.c0 {W : World} {b : Nat} {k : Key} {o : Option Int} {l r : TT} (h : (TT.node b k o l r).In W) : W.cell? ⟨b, 0, none⟩ = some (.int .u32 (ka k)) := h.c 0
theorem TT.In.c1 {W : World} {b : Nat} {k : Key} {o : Option Int} {l r : TT} (h : (TT.node b k o l r).In W) : W.cell? ⟨b, 1, none⟩ = some (.int .i64 k.length) := h.c 1
theorem TT.In.c2 {W : World} {b : Nat} {k : Key} {o : Option Int} {l r : TT} (h : (TT.node b k o l r).In W) : W.cell? ⟨b, 2, none⟩ = some (.int .i64 (o.getD 0)) := h.c 2
theorem TT.In.c3 {W : World} {b : Nat} {k : Key} {o : Option Int} {l r : TT} (h : (TT.node b k o l r).In W) : W.cell? ⟨b, 3, none⟩ = some (.bool o.isSome) := h.c 3
theorem TT.In.c4 {W : World} {b : Nat} {k : Key} {o : Option Int} {l r : TT} (h : (TT.node b k o l r).In W) : W.cell? ⟨b, 4, none⟩ = some l.ptr := h.c 4
theorem TT.In.c5 {W : World} {b : Nat} {k : Key} {o : Option Int} {l r : TT} (h : (TT.node b k o l r).In W) : W.cell? ⟨b, 5, none⟩ = some r.ptr := h.c 5
theorem TT.In.f {W : World} {b : Nat} {k : Key} {o : Option Int} {l r : TT} (h : (TT.node b k o l r).In W) (i : Nat) : W.frozen? ⟨b, i, none⟩ = false := by
  simp [World.frozen?, h.1, nodeO]

theorem heap_set {W : World} {B o : Nat} {cs : Array Value} {t : TypeId} {fz : Nat × Nat} (v : Value) (h : W.heap[B]? = some (.cells cs t fz)) : (W.setCell ⟨B, o, none⟩ v).heap[B]? = some (.cells (cs.setIfInBounds o v) t fz) := by
  obtain ⟨hlt, hk⟩ := Array.getElem?_eq_some_iff.1 h
  show (W.heap.modify B _)[B]? = _
  rw [Array.getElem?_eq_getElem (by rw [Array.size_modify]; exact hlt), Array.getElem_modify_self, hk]
  rfl

/-- where the way to p ends -/
def TT.place : TT → Key → Addr → Addr
  | .nil, _, a => a
  | .node b k _ l r, p, a => if k <+: p then (if k.length = p.length then a else if p.getD k.length false then r.place p ⟨b, 5, none⟩ else l.place p ⟨b, 4, none⟩) else a
/-- a subtree at a place -/
def TAt (W : World) (a : Addr) (t : TT) : Prop := W.cell? a = some t.ptr ∧ t.In W
theorem TAt.l {W : World} {a : Addr} {b : Nat} {k : Key} {o : Option Int} {l r : TT} (h : TAt W a (.node b k o l r)) : TAt W ⟨b, 4, none⟩ l := ⟨h.2.c4, h.2.2.1⟩
theorem TAt.r {W : World} {a : Addr} {b : Nat} {k : Key} {o : Option Int} {l r : TT} (h : TAt W a (.node b k o l r)) : TAt W ⟨b, 5, none⟩ r := ⟨h.2.c5, h.2.2.2⟩
theorem TAt.below {W W' : World} {a : Addr} {t : TT} (h : TAt W a t) (ha : a.block < W.heap.size) (hp : a.spot = none) (hb : Below W.heap.size W W') : TAt W' a t := by
  obtain ⟨b, o, p⟩ := a
  simp only at hp ha
  subst hp
  exact ⟨(hb.cell ha).trans h.1, h.2.below hb⟩
theorem TAt.spot {W : World} {a : Addr} {t : TT} (h : TAt W a t) (p : Key) : TAt W (t.place p a) (t.spot p) := by
  induction t generalizing a with
  | nil => exact h
  | node b k o l r il ir =>
    simp only [TT.place, TT.spot]
    repeat' split
    · exact h
    · exact ir h.r
    · exact il h.l
    · exact h
theorem TT.spot_blocks {t : TT} {p : Key} {c : Nat} (h : c ∈ (t.spot p).blocks) : c ∈ t.blocks := by
  induction t with
  | nil => exact h
  | node b k o l r il ir =>
    simp only [TT.spot] at h
    simp only [TT.blocks, List.mem_cons, List.mem_append]
    repeat' split at h
    · simpa [TT.blocks] using h
    · exact .inr (.inr (ir h))
    · exact .inr (.inl (il h))
    · simpa [TT.blocks] using h
theorem TT.place_or (t : TT) (p : Key) (a : Addr) : t.place p a = a ∨ ((t.place p a).block ∈ t.blocks ∧ (t.place p a).spot = none ∧ ∀ X, (t.rsub p X).ptr = t.ptr) := by
  cases t with
  | nil => exact .inl rfl
  | node b k o l r =>
    simp only [TT.place, TT.rsub]
    by_cases hk : k <+: p
    · simp only [if_pos hk]
      by_cases hl : k.length = p.length
      · simp only [if_pos hl]; exact .inl trivial
      · simp only [if_neg hl]
        have hind : ∀ (t : TT) (a : Addr), a.spot = none → ((t.place p a).block = a.block ∨ (t.place p a).block ∈ t.blocks) ∧ (t.place p a).spot = none := by
          intro t
          induction t with
          | nil => exact fun a ha => ⟨.inl rfl, ha⟩
          | node b' k' o' l' r' il ir =>
            intro a ha
            simp only [TT.place]
            repeat' split
            · exact ⟨.inl rfl, ha⟩
            · refine ⟨.inr ?_, (ir ⟨b', 5, none⟩ rfl).2⟩
              rcases (ir ⟨b', 5, none⟩ rfl).1 with h | h
              · rw [h]; simp [TT.blocks]
              · simp [TT.blocks, h]
            · refine ⟨.inr ?_, (il ⟨b', 4, none⟩ rfl).2⟩
              rcases (il ⟨b', 4, none⟩ rfl).1 with h | h
              · rw [h]; simp [TT.blocks]
              · simp [TT.blocks, h]
            · exact ⟨.inl rfl, ha⟩
        right
        split
        · refine ⟨?_, (hind r ⟨b, 5, none⟩ rfl).2, fun X => rfl⟩
          rcases (hind r ⟨b, 5, none⟩ rfl).1 with h | h
          · rw [h]; simp [TT.blocks]
          · simp [TT.blocks, h]
        · refine ⟨?_, (hind l ⟨b, 4, none⟩ rfl).2, fun X => rfl⟩
          rcases (hind l ⟨b, 4, none⟩ rfl).1 with h | h
          · rw [h]; simp [TT.blocks]
          · simp [TT.blocks, h]
    · simp only [if_neg hk]; exact .inl trivial
theorem TT.place_path {t : TT} {p : Key} {a : Addr} (ha : a.spot = none) : (t.place p a).spot = none := by
  rcases t.place_or p a with h | h
  · rw [h]; exact ha
  · exact h.2.1
theorem TT.place_block {t : TT} {p : Key} {a : Addr} : (t.place p a).block = a.block ∨ (t.place p a).block ∈ t.blocks := by
  rcases t.place_or p a with h | h
  · rw [h]; exact .inl rfl
  · exact .inr h.1

/-- another subtree at the place: what is told of the world behind the write -/
structure Turned (W W' : World) (q : Addr) (old X : TT) (S : List Nat) : Prop where
  here : X.In W'
  cell : W'.cell? q = some X.ptr
  rest : ∀ c ∈ S, c ∉ old.blocks → c ≠ q.block → W'.heap[c]? = W.heap[c]?
  obj : ∀ cs t fz, W.heap[q.block]? = some (.cells cs t fz) → W'.heap[q.block]? = some (.cells (cs.setIfInBounds q.off X.ptr) t fz)
theorem Turned.sub {W W' : World} {q : Addr} {old X : TT} {S S' : List Nat} (h : Turned W W' q old X S) (hs : ∀ c ∈ S', c ∈ S) : Turned W W' q old X S' :=
  ⟨h.here, h.cell, fun c hc => h.rest c (hs c hc), h.obj⟩
theorem TAt.turn {W W' : World} {a : Addr} {t X : TT} {p : Key} (h : TAt W a t) (hn : (a.block :: t.blocks).Nodup) (hT : Turned W W' (t.place p a) (t.spot p) X (a.block :: t.blocks)) (ha : a.spot = none) :
    TAt W' a (t.rsub p X) := by
  induction t generalizing a with
  | nil => exact ⟨hT.cell, hT.here⟩
  | node b k o l r il ir =>
    simp only [TT.place, TT.spot, TT.rsub] at *
    have hin := h.2
    by_cases hk : k <+: p
    · simp only [if_pos hk] at *
      by_cases hl : k.length = p.length
      · simp only [if_pos hl] at *
        exact ⟨hT.cell, hT.here⟩
      · simp only [if_neg hl] at *
        simp only [TT.blocks] at hn hT
        have hn' := List.nodup_cons.1 hn
        have hn2 := List.nodup_cons.1 hn'.2
        have hn3 := List.nodup_append.1 hn2.2
        have hna : a.block ≠ b ∧ a.block ∉ l.blocks ∧ a.block ∉ r.blocks := by
          have := hn'.1
          simp only [List.mem_cons, List.mem_append, not_or] at this
          exact this
        have hnb : b ∉ l.blocks ∧ b ∉ r.blocks := by
          have := hn2.1
          simp only [List.mem_append, not_or] at this
          exact this
        cases hbit : p.getD k.length false with
        | true =>
          simp only [hbit, if_true] at *
          have hsp : ∀ c, c ∈ (r.spot p).blocks → c ∈ r.blocks := fun c hc => TT.spot_blocks hc
          have ih := ir (a := ⟨b, 5, none⟩) h.r (List.nodup_cons.2 ⟨hnb.2, hn3.2.1⟩) (hT.sub fun c hc => by
            simp only [List.mem_cons, List.mem_append] at hc ⊢
            rcases hc with rfl | hc
            · exact .inr (.inl rfl)
            · exact .inr (.inr (.inr hc))) rfl
          have hqb := TT.place_block (t := r) (p := p) (a := ⟨b, 5, none⟩)
          have hl' : l.In W' := hin.2.1.of_blocks fun c hc => hT.rest c (by simp [hc]) (fun hm => hn3.2.2 c hc c (hsp c hm) rfl) (by
            rintro rfl
            rcases hqb with e | e
            · exact hnb.1 (by rw [e] at hc; exact hc)
            · exact hn3.2.2 _ hc _ e rfl)
          have hbox : W'.heap[b]? = some (nodeO k o l (r.rsub p X)) := by
            rcases r.place_or p ⟨b, 5, none⟩ with e | ⟨e1, _, e2⟩
            · have := hT.obj _ _ _ (show W.heap[(r.place p ⟨b, 5, none⟩).block]? = some (nodeO k o l r) by rw [e]; exact hin.1)
              rw [e] at this
              refine this.trans ?_
              have e3 : X.ptr = (r.rsub p X).ptr := by
                have h1 := ih.1
                have h2 := hT.cell
                rw [e] at h2
                rw [h2] at h1
                exact Option.some.inj h1
              rw [e3]
              rfl
            · rw [hT.rest b (by simp) (fun hm => hnb.2 (hsp b hm)) (fun e => hnb.2 (by rw [e]; exact e1)), hin.1]
              unfold nodeO
              rw [e2]
          refine ⟨?_, hbox, hl', ih.2⟩
          have hc : W'.cell? a = W.cell? a := by
            obtain ⟨ab, ao, ap⟩ := a
            simp only at ha
            subst ha
            refine World.cell?_of_block ?_
            refine hT.rest ab (by simp) (fun hm => hna.2.2 (hsp _ hm)) ?_
            intro e
            rcases hqb with e2 | e2
            · exact hna.1 (e.trans e2)
            · exact hna.2.2 (by rw [← e] at e2; exact e2)
          exact hc.trans h.1
        | false =>
          simp only [hbit, Bool.false_eq_true, if_false] at *
          have hsp : ∀ c, c ∈ (l.spot p).blocks → c ∈ l.blocks := fun c hc => TT.spot_blocks hc
          have ih := il (a := ⟨b, 4, none⟩) h.l (List.nodup_cons.2 ⟨hnb.1, hn3.1⟩) (hT.sub fun c hc => by
            simp only [List.mem_cons, List.mem_append] at hc ⊢
            rcases hc with rfl | hc
            · exact .inr (.inl rfl)
            · exact .inr (.inr (.inl hc))) rfl
          have hqb := TT.place_block (t := l) (p := p) (a := ⟨b, 4, none⟩)
          have hl' : r.In W' := hin.2.2.of_blocks fun c hc => hT.rest c (by simp [hc]) (fun hm => hn3.2.2 c (hsp c hm) c hc rfl) (by
            rintro rfl
            rcases hqb with e | e
            · exact hnb.2 (by rw [e] at hc; exact hc)
            · exact hn3.2.2 _ e _ hc rfl)
          have hbox : W'.heap[b]? = some (nodeO k o (l.rsub p X) r) := by
            rcases l.place_or p ⟨b, 4, none⟩ with e | ⟨e1, _, e2⟩
            · have := hT.obj _ _ _ (show W.heap[(l.place p ⟨b, 4, none⟩).block]? = some (nodeO k o l r) by rw [e]; exact hin.1)
              rw [e] at this
              refine this.trans ?_
              have e3 : X.ptr = (l.rsub p X).ptr := by
                have h1 := ih.1
                have h2 := hT.cell
                rw [e] at h2
                rw [h2] at h1
                exact Option.some.inj h1
              rw [e3]
              rfl
            · rw [hT.rest b (by simp) (fun hm => hnb.1 (hsp b hm)) (fun e => hnb.1 (by rw [e]; exact e1)), hin.1]
              unfold nodeO
              rw [e2]
          refine ⟨?_, hbox, ih.2, hl'⟩
          have hc : W'.cell? a = W.cell? a := by
            obtain ⟨ab, ao, ap⟩ := a
            simp only at ha
            subst ha
            refine World.cell?_of_block ?_
            refine hT.rest ab (by simp) (fun hm => hna.2.1 (hsp _ hm)) ?_
            intro e
            rcases hqb with e2 | e2
            · exact hna.1 (e.trans e2)
            · exact hna.2.1 (by rw [← e] at e2; exact e2)
          exact hc.trans h.1
    · simp only [if_neg hk] at *
      exact ⟨hT.cell, hT.here⟩

/-- the places on the way to p, with what stands there -/
def TT.way : TT → Key → Addr → List (Addr × TT)
  | .nil, _, _ => []
  | .node b k o l r, p, a => if k <+: p then (a, .node b k o l r) :: (if k.length = p.length then [] else if p.getD k.length false then r.way p ⟨b, 5, none⟩ else l.way p ⟨b, 4, none⟩) else []

/-- the trie: its box, its nodes -/
structure TrS (W : World) (q : Nat) (t : TT) : Prop where
  box : W.heap[q]? = some (.cells #[t.ptr, .int .i64 t.rows.length, .bool true] 84 (0, 0))
  here : t.In W
  nodup : (q :: t.blocks).Nodup
  wf : t.WF
theorem TrS.lt {W : World} {q : Nat} {t : TT} (h : TrS W q t) : q < W.heap.size := (Array.getElem?_eq_some_iff.1 h.box).1
theorem TrS.c0 {W : World} {q : Nat} {t : TT} (h : TrS W q t) : W.cell? ⟨q, 0, none⟩ = some t.ptr := by simp [World.cell?, h.box]
theorem TrS.c1 {W : World} {q : Nat} {t : TT} (h : TrS W q t) : W.cell? ⟨q, 1, none⟩ = some (.int .i64 t.rows.length) := by simp [World.cell?, h.box]
theorem TrS.c2 {W : World} {q : Nat} {t : TT} (h : TrS W q t) : W.cell? ⟨q, 2, none⟩ = some (.bool true) := by simp [World.cell?, h.box]
theorem TrS.f {W : World} {q : Nat} {t : TT} (h : TrS W q t) (i : Nat) : W.frozen? ⟨q, i, none⟩ = false := by simp [World.frozen?, h.box]
theorem TrS.at {W : World} {q : Nat} {t : TT} (h : TrS W q t) : TAt W ⟨q, 0, none⟩ t := ⟨h.c0, h.here⟩
theorem TrS.of_blocks {W W' : World} {q : Nat} {t : TT} (h : TrS W q t) (he : ∀ b ∈ q :: t.blocks, W'.heap[b]? = W.heap[b]?) : TrS W' q t :=
  ⟨(he q (by simp)).trans h.box, h.here.of_blocks fun b hb => he b (by simp [hb]), h.nodup, h.wf⟩
theorem TrS.blt {W : World} {q : Nat} {t : TT} (h : TrS W q t) {b : Nat} (hb : b ∈ q :: t.blocks) : b < W.heap.size := by
  rcases List.mem_cons.1 hb with rfl | hb
  · exact h.lt
  · exact h.here.lt hb
theorem TrS.below {W W' : World} {q : Nat} {t : TT} (h : TrS W q t) (hb : Below W.heap.size W W') : TrS W' q t := h.of_blocks fun b hm => hb.block b (h.blt hm)
end Go.Proofs.YtbacahoihkpkpaaDoor
/- Contracts: trie.New, none, kept, row, isOrWithin, down, told. -/
namespace Go.Proofs.YtbacahoihkpkpaaDoor
open Go.RowKit

set_option maxHeartbeats 400000 in
theorem New_any (w : World) : Calls Tryd.prog 18 #[] w fun e w' => e = .returned (.pointer (some ⟨w.heap.size, 0, none⟩)) ∧ w' = w.alloc (.cells #[.pointer none, .int .i64 0, .bool true] 84) := by
  go_enter Tryd.func18, Tryd.ntmps18
  go_wp2
  go_ret
  exact ⟨rfl, rfl⟩
theorem new_st (w : World) : TrS (w.alloc (.cells #[.pointer none, .int .i64 0, .bool true] 84)) w.heap.size .nil :=
  ⟨World.alloc_heap_new w _, trivial, by simp [TT.blocks], trivial⟩

set_option maxHeartbeats 400000 in
theorem none_t (q : Nat) (t : TT) (w : World) (h : TrS w q t) : Calls Tryd.prog 34 #[.pointer (some ⟨q, 0, none⟩)] w fun e w' => e = .returned (.bool false) ∧ w = w' := by
  have c2 := h.c2
  go_enter Tryd.func34, Tryd.ntmps34
  go_wp2
  go_ret
  exact ⟨rfl, rfl⟩
set_option maxHeartbeats 400000 in
theorem none_n (w : World) : Calls Tryd.prog 34 #[.pointer none] w fun e w' => e = .returned (.bool true) ∧ w = w' := by
  go_enter Tryd.func34, Tryd.ntmps34
  go_wp2
  go_ret
  exact ⟨rfl, rfl⟩

set_option maxHeartbeats 400000 in
theorem kept_any (b : Nat) (k : Key) (o : Option Int) (l r : TT) (w : World) (h : (TT.node b k o l r).In w) : Calls Tryd.prog 65 #[.pointer (some ⟨b, 0, none⟩)] w fun e w' => e = .returned (TT.kept (.node b k o l r)).ptr ∧ w = w' := by
  have c3 := h.c3
  have c4 := h.c4
  have c5 := h.c5
  cases o with
  | some v =>
    simp only [Option.isSome_some] at c3
    go_enter Tryd.func65, Tryd.ntmps65
    go_wp2
    go_ret
    exact ⟨rfl, rfl⟩
  | none =>
    simp only [Option.isSome_none] at c3
    cases l with
    | nil =>
      simp only [TT.ptr] at c4
      generalize hp : r.ptr = rp at *
      have HP := Lib.hid hp
      clear hp h
      go_enter Tryd.func65, Tryd.ntmps65
      go_wp2
      go_ret
      exact ⟨by simp [TT.kept, TT.isN, HP.out], rfl⟩
    | node b1 k1 o1 l1 r1 =>
      simp only [TT.ptr] at c4
      cases r with
      | nil =>
        simp only [TT.ptr] at c5
        clear h
        go_enter Tryd.func65, Tryd.ntmps65
        go_wp2
        go_ret
        exact ⟨rfl, rfl⟩
      | node b2 k2 o2 l2 r2 =>
        simp only [TT.ptr] at c5
        clear h
        go_enter Tryd.func65, Tryd.ntmps65
        go_wp2
        go_ret
        exact ⟨rfl, rfl⟩

theorem relOf_y (x : Bool) : (relOf x true = 1 ∨ relOf x true = 2) := by cases x <;> simp [relOf]
set_option maxHeartbeats 400000 in
theorem isOrWithin_any (p n : Key) (r : Bool) (hp : p.length ≤ 32) (hn : n.length ≤ 32) (hr : decide (n <+: p) = r) (w : World) (hw : RelsAt w) :
    Calls Tryd.prog 76 #[.agg #[.int .u32 (ka p), .int .i64 p.length], .agg #[.int .u32 (ka n), .int .i64 n.length]] w fun e w' => e = .returned (.bool r) ∧ Below w.heap.size w w' := by
  have hb0 : Below w.heap.size w ((w.alloc (.cells #[.int .u32 (ka p), .int .i64 p.length] 26)).alloc (.cells #[.int .u32 (ka n), .int .i64 n.length] 26)) := ((Below.refl _ w).alloc (Nat.le_refl _) _).alloc (by simp) _
  have hS := Lib.hid (Stands_t (ka p) p.length (ka n) n.length _ (hw.below hb0) (ka_right hp) (ka_right hn))
  have HB := Lib.hid hb0
  have hy : holdsB (ka n) n.length (ka p) p.length = r := by rw [ka_holds hn, hr]
  generalize holdsB (ka n) n.length (ka p) p.length = y at *
  generalize holdsB (ka p) p.length (ka n) n.length = x at *
  subst hy
  clear hb0 hw hr
  cases x <;> cases y
  all_goals
    go_enter Tryd.func76, Tryd.ntmps76
    go_wp2_with (go_at_call 84; with_reducible refine hS.out.mono ?_; rintro e w1 ⟨rfl, hb⟩; simp only [relOf, if_true, if_false, Bool.false_eq_true])
    have HB1 := Lib.hid hb
    clear hb
    go_ret
    exact ⟨rfl, bthen HB.out HB1.out⟩

theorem down_any (q : Nat) (p : Key) (w : World) : Calls Tryd.prog 57 #[.pointer (some ⟨q, 0, none⟩), .agg #[.int .u32 (ka p), .int .i64 p.length]] w fun e w' =>
    e = .returned (.func (.func 75) #[] #[.pointer (some ⟨w.heap.size, 0, none⟩), .pointer (some ⟨w.heap.size + 1, 0, none⟩)]) ∧ w' = (w.alloc (.cells #[.pointer (some ⟨q, 0, none⟩)] 28)).alloc (.cells #[.int .u32 (ka p), .int .i64 p.length] 26) := by
  go_enter Tryd.func57, Tryd.ntmps57
  go_wp2
  go_ret
  exact ⟨rfl, rfl⟩

theorem told_any (v : Value) (b : Option Addr) (n c : Nat) (hv : v = .slice b n c) (w : World) : Calls Tryd.prog 37 #[v] w fun e w' => e = .returned (.func (.func 60) #[] #[.pointer (some ⟨w.heap.size, 0, none⟩)]) ∧ w' = w.alloc (.cells #[.slice b n c] 71) := by
  subst hv
  go_enter Tryd.func37, Tryd.ntmps37
  go_wp2
  go_ret
  exact ⟨rfl, rfl⟩
end Go.Proofs.YtbacahoihkpkpaaDoor
