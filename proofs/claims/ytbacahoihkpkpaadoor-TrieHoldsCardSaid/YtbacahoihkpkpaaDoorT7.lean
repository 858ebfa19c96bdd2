/- Contract: trie.Put (walk). -/
import Derived.Test.YtbacahoihkpkpaaDoorT6
import Derived.Test.YtbacahoihkpkpaaDoorQ4
namespace Go.Proofs.YtbacahoihkpkpaaDoor
open Go.RowKit Go.Shelf

/-- what Put and Take leave: another trie in the same box -/
structure Went (w w' : World) (q : Nat) (t t' : TT) : Prop where
  st : TrS w' q t'
  kb : KB (q :: t.blocks) w w'
  new : ∀ c ∈ t'.blocks, c ∈ t.blocks ∨ w.heap.size ≤ c
theorem Went.refl {w w' : World} {q : Nat} {t : TT} (h : TrS w q t) (hb : Below w.heap.size w w') : Went w w' q t t := ⟨h.below hb, KB.of_below hb, fun _ hc => .inl hc⟩
/-- p has the value v, all else is as it was -/
def PutR (t t' : TT) (p : Key) (v : Int) : Prop := ∀ x u, (x, u) ∈ t'.rows ↔ x = p ∧ u = v ∨ x ≠ p ∧ (x, u) ∈ t.rows

theorem put_len_new {t : TT} (h : t.WF) {p : Key} {v : Int} (hp : p.length ≤ 32) (hn : t.get p = none) (b1 b2 : Nat) : (t.put b1 b2 p v).rows.length = t.rows.length + 1 := by
  have hno : ∀ u, (p, u) ∉ t.rows := fun u hm => by rw [(TT.get_iff h p u).2 hm] at hn; cases hn
  obtain ⟨h1, _, h3⟩ := TT.put_ok h (v := v) hp b1 b2
  obtain ⟨i1, i2⟩ := insR_ok h.rows hp hno v
  have e := ordR_ext h1.rows i1 (fun x => (h3 x.1 x.2).trans (i2 x.1 x.2).symm)
  rw [e]
  unfold insR
  have := aheadR_le t.rows p
  simp only [List.length_append, List.length_take, List.length_cons, List.length_drop]
  omega
theorem put_len_old {t : TT} (h : t.WF) {p : Key} {v u : Int} (hp : p.length ≤ 32) (hn : t.get p = some u) (b1 b2 : Nat) : (t.put b1 b2 p v).rows.length = t.rows.length := by
  obtain ⟨i, hi⟩ := List.getElem?_of_mem ((TT.get_iff h p u).1 hn)
  obtain ⟨h1, _, h3⟩ := TT.put_ok h (v := v) hp b1 b2
  obtain ⟨i1, i2⟩ := setR_ok h.rows hi v
  have e := ordR_ext h1.rows i1 (fun x => (h3 x.1 x.2).trans (i2 x.1 x.2).symm)
  rw [e, List.length_set]

/-- the box of the trie behind hang -/
theorem box_hang {w w' : World} {q n : Nat} {t X : TT} {p : Key} (hbox : w.heap[q]? = some (.cells #[t.ptr, .int .i64 n, .bool true] 84 (0, 0))) (hn : (q :: t.blocks).Nodup) (hP : HangP w w' (t.place p ⟨q, 0, none⟩) (t.spot p) X) :
    w'.heap[q]? = some (.cells #[(t.rsub p X).ptr, .int .i64 n, .bool true] 84 (0, 0)) ∧ ((t.place p ⟨q, 0, none⟩) = ⟨q, 0, none⟩ → (t.rsub p X).ptr = X.ptr) := by
  have hq : q < w.heap.size := (Array.getElem?_eq_some_iff.1 hbox).1
  have hq2 := (List.nodup_cons.1 hn).1
  have hroot : (t.place p ⟨q, 0, none⟩) = ⟨q, 0, none⟩ → (t.rsub p X).ptr = X.ptr := by
    intro e
    cases t with
    | nil => rfl
    | node b k o l r =>
      simp only [TT.place, TT.rsub] at e ⊢
      split
      · rename_i hk
        rw [if_pos hk] at e
        split
        · rfl
        · rename_i hl
          rw [if_neg hl] at e
          exfalso
          simp only [TT.blocks, List.mem_cons, List.mem_append, not_or] at hq2
          split at e
          · rcases TT.place_block (t := r) (p := p) (a := ⟨b, 5, none⟩) with h | h
            · rw [e] at h; exact hq2.1 h
            · rw [e] at h; exact hq2.2.2 h
          · rcases TT.place_block (t := l) (p := p) (a := ⟨b, 4, none⟩) with h | h
            · rw [e] at h; exact hq2.1 h
            · rw [e] at h; exact hq2.2.1 h
      · rfl
  refine ⟨?_, hroot⟩
  rcases t.place_or p ⟨q, 0, none⟩ with e | ⟨e1, _, e2⟩
  · have := hP.obj
    rw [e] at this
    rw [hroot e]
    exact this _ _ _ hbox
  · rw [e2 X, ← hbox]
    refine hP.kb.block q hq fun hm => ?_
    rcases List.mem_cons.1 hm with h | h
    · rw [← h] at e1; exact hq2 e1
    · exact hq2 (TT.spot_blocks h)
theorem KB.place {w w' : World} {q : Nat} {t X : TT} {p : Key} (hP : HangP w w' (t.place p ⟨q, 0, none⟩) (t.spot p) X) : KB (q :: t.blocks) w w' :=
  hP.kb.sub fun c hc => .inl (by
    rcases List.mem_cons.1 hc with rfl | h
    · rcases TT.place_block (t := t) (p := p) (a := ⟨q, 0, none⟩) with h | h
      · simp only at h; rw [h]; simp
      · simp [h]
    · simp [TT.spot_blocks h])

/-- behind hang of a new key, and many++ -/
theorem went_new {w w1 : World} {q : Nat} {t : TT} {p : Key} {v : Int} {b1 b2 : Nat} (h : TrS w q t) (hp : p.length ≤ 32) (hg : t.get p = none) (hP : HangP w w1 (t.place p ⟨q, 0, none⟩) (t.spot p) (TT.hang b1 b2 p v (t.spot p))) (h1 : w.heap.size ≤ b1) (h2 : w.heap.size ≤ b2) (h3 : b1 ≠ b2) :
    w1.heap[q]? = some (.cells #[(t.put b1 b2 p v).ptr, .int .i64 t.rows.length, .bool true] 84 (0, 0)) ∧ Went w (w1.setCell ⟨q, 1, none⟩ (.int .i64 (t.rows.length + 1))) q t (t.put b1 b2 p v) := by
  have hbox := (box_hang h.box h.nodup hP).1
  have hsub : ∀ c ∈ (TT.hang b1 b2 p v (t.spot p)).blocks, c ∈ (t.spot p).blocks ∨ w.heap.size ≤ c := fun c hc => by
    rcases TT.hang_blocks _ _ _ _ _ c hc with h' | rfl | rfl
    · exact .inl h'
    · exact .inr h1
    · exact .inr h2
  have hnd : (TT.hang b1 b2 p v (t.spot p)).blocks.Nodup := TT.hang_nodup (TT.spot_nodup (List.nodup_cons.1 h.nodup).2) (fun hm => by have := h.here.lt (TT.spot_blocks hm); omega) (fun hm => by have := h.here.lt (TT.spot_blocks hm); omega) h3
  have hwf := (TT.put_ok h.wf (v := v) hp b1 b2).1
  have hn := List.nodup_cons.1 h.nodup
  have hin := (h.at.turn (p := p) h.nodup (hP.turned fun c hc => h.blt hc) rfl).2
  have hqn : q ∉ (t.put b1 b2 p v).blocks := fun hm => by
    rcases TT.rsub_blocks _ hm with h' | h'
    · exact hn.1 h'
    · rcases hsub _ h' with h'' | h''
      · exact hn.1 (TT.spot_blocks h'')
      · have := h.lt; omega
  refine ⟨hbox, ⟨?_, hin.of_blocks fun c hc => heapS _ _ _ _ c (fun e => hqn (e ▸ hc)), List.nodup_cons.2 ⟨hqn, TT.rsub_nodup hn.2 hnd fun c hc hm => ?_⟩, hwf⟩, (KB.place hP).trans (KB.setCell _ _ _ _ _ (by simp)), fun c hc => ?_⟩
  · rw [put_len_new h.wf hp hg]
    exact heap_set _ hbox
  · rcases hsub _ hc with h' | h'
    · exact h'
    · have := h.here.lt hm; omega
  · rcases TT.rsub_blocks _ hc with h' | h'
    · exact .inl h'
    · rcases hsub _ h' with h'' | h''
      · exact .inl (TT.spot_blocks h'')
      · exact .inr h''
/-- behind a new value of an old key -/
theorem went_old {w w1 : World} {q : Nat} {t : TT} {p : Key} {u v : Int} (h : TrS w q t) (hp : p.length ≤ 32) (hg : t.get p = some u) (hP : HangP w w1 (t.place p ⟨q, 0, none⟩) (t.spot p) (TT.hang w.heap.size (w.heap.size + 1) p v (t.spot p))) :
    Went w w1 q t (t.put w.heap.size (w.heap.size + 1) p v) := by
  have hbox := (box_hang h.box h.nodup hP).1
  have hsub : ∀ c ∈ (TT.hang w.heap.size (w.heap.size + 1) p v (t.spot p)).blocks, c ∈ (t.spot p).blocks ∨ w.heap.size ≤ c := fun c hc => by
    rcases TT.hang_blocks _ _ _ _ _ c hc with h' | rfl | rfl
    · exact .inl h'
    · exact .inr (Nat.le_refl _)
    · exact .inr (by omega)
  have hnd : (TT.hang w.heap.size (w.heap.size + 1) p v (t.spot p)).blocks.Nodup := TT.hang_nodup (TT.spot_nodup (List.nodup_cons.1 h.nodup).2) (fun hm => by have := h.here.lt (TT.spot_blocks hm); omega) (fun hm => by have := h.here.lt (TT.spot_blocks hm); omega) (by omega)
  have hwf := (TT.put_ok h.wf (v := v) hp w.heap.size (w.heap.size + 1)).1
  refine ⟨h.turn hP hnd hsub ?_ hwf, KB.place hP, fun c hc => ?_⟩
  · rw [show (t.rsub p (TT.hang w.heap.size (w.heap.size + 1) p v (t.spot p))).rows.length = t.rows.length from put_len_old h.wf hp hg _ _]
    exact hbox
  · rcases TT.rsub_blocks _ hc with h' | h'
    · exact .inl h'
    · rcases hsub _ h' with h'' | h''
      · exact .inl (TT.spot_blocks h'')
      · exact .inr h''
theorem Went.after {w w3 w' : World} {q : Nat} {t t' : TT} (hb : Below w.heap.size w w3) (h : Went w3 w' q t t') : Went w w' q t t' :=
  ⟨h.st, KB.thenB hb h.kb, fun c hc => by rcases h.new c hc with h' | h'; exact .inl h'; exact .inr (Nat.le_trans hb.size h')⟩
end Go.Proofs.YtbacahoihkpkpaaDoor
