/- Contract: trie.Put. -/
import Derived.Test.YtbacahoihkpkpaaDoorT5
namespace Go.Proofs.YtbacahoihkpkpaaDoor
open Go.RowKit Go.Shelf

theorem TT.hang_blocks (b1 b2 : Nat) (p : Key) (v : Int) (t : TT) : ∀ c ∈ (TT.hang b1 b2 p v t).blocks, c ∈ t.blocks ∨ c = b1 ∨ c = b2 := by
  cases t with
  | nil => intro c hc; simp [TT.hang, TT.blocks] at hc; exact .inr (.inl hc)
  | node b k o l r =>
    intro c hc
    simp only [TT.hang] at hc
    simp only [TT.blocks, List.mem_cons, List.mem_append]
    split at hc
    · simp only [TT.blocks, List.mem_cons, List.mem_append] at hc; exact .inl hc
    · split at hc
      · split at hc
        all_goals
          simp only [TT.blocks, List.mem_cons, List.mem_append, List.not_mem_nil, false_or, or_false] at hc
          rcases hc with h | h
          · exact .inr (.inl h)
          · exact .inl h
      · split at hc
        all_goals
          simp only [TT.blocks, List.mem_cons, List.mem_append, List.not_mem_nil, false_or, or_false] at hc
          rcases hc with h | h | h
          · exact .inr (.inr h)
          · first | exact .inr (.inl h) | exact .inl h
          · first | exact .inr (.inl h) | exact .inl h
theorem TT.hang_nodup {b1 b2 : Nat} {p : Key} {v : Int} {t : TT} (h : t.blocks.Nodup) (h1 : b1 ∉ t.blocks) (h2 : b2 ∉ t.blocks) (h3 : b1 ≠ b2) : (TT.hang b1 b2 p v t).blocks.Nodup := by
  cases t with
  | nil => simp [TT.hang, TT.blocks]
  | node b k o l r =>
    simp only [TT.hang]
    split
    · exact h
    · split
      · split
        · simpa [TT.blocks] using ⟨by simpa [TT.blocks] using h1, by simpa [TT.blocks] using h⟩
        · simpa [TT.blocks] using ⟨by simpa [TT.blocks] using h1, by simpa [TT.blocks] using h⟩
      · have h' : (b2 :: b1 :: (TT.node b k o l r).blocks).Nodup := List.nodup_cons.2 ⟨by simp only [List.mem_cons, not_or]; exact ⟨fun e => h3 e.symm, h2⟩, List.nodup_cons.2 ⟨h1, h⟩⟩
        split
        · have e : (TT.node b2 (lcp k p) none (.node b k o l r) (.node b1 p (some v) .nil .nil)).blocks = b2 :: ((TT.node b k o l r).blocks ++ [b1]) := by simp [TT.blocks]
          rw [e]
          refine List.Perm.nodup ?_ h'
          exact List.Perm.cons _ (List.perm_append_singleton b1 _).symm
        · have e : (TT.node b2 (lcp k p) none (.node b1 p (some v) .nil .nil) (.node b k o l r)).blocks = b2 :: b1 :: (TT.node b k o l r).blocks := by simp [TT.blocks]
          rw [e]
          exact h'
theorem TT.rsub_blocks {t X : TT} {p : Key} : ∀ c ∈ (t.rsub p X).blocks, c ∈ t.blocks ∨ c ∈ X.blocks := by
  induction t with
  | nil => exact fun c hc => .inr hc
  | node b k o l r il ir =>
    intro c hc
    simp only [TT.rsub] at hc
    simp only [TT.blocks, List.mem_cons, List.mem_append]
    split at hc
    · split at hc
      · exact .inr hc
      · split at hc
        · simp only [TT.blocks, List.mem_cons, List.mem_append] at hc
          rcases hc with h | h | h
          · exact .inl (.inl h)
          · exact .inl (.inr (.inl h))
          · rcases ir c h with h | h
            · exact .inl (.inr (.inr h))
            · exact .inr h
        · simp only [TT.blocks, List.mem_cons, List.mem_append] at hc
          rcases hc with h | h | h
          · exact .inl (.inl h)
          · rcases il c h with h | h
            · exact .inl (.inr (.inl h))
            · exact .inr h
          · exact .inl (.inr (.inr h))
    · exact .inr hc
theorem TT.rsub_nodup {t X : TT} {p : Key} (h : t.blocks.Nodup) (hX : X.blocks.Nodup) (hd : ∀ c ∈ X.blocks, c ∈ t.blocks → c ∈ (t.spot p).blocks) : (t.rsub p X).blocks.Nodup := by
  induction t with
  | nil => exact hX
  | node b k o l r il ir =>
    have hs := fun c hc h1 => hd c hc h1
    simp only [TT.blocks, List.nodup_cons, List.nodup_append, List.mem_append, not_or] at h
    obtain ⟨⟨n1, n2⟩, n3, n4, n5⟩ := h
    simp only [TT.rsub]
    simp only [TT.spot] at hd
    split
    · rename_i hk
      rw [if_pos hk] at hd
      split
      · exact hX
      · rename_i hl
        rw [if_neg hl] at hd
        split
        · rename_i hb
          rw [if_pos hb] at hd
          have hr := ir n4 (fun c hc hm => hd c hc (by simp [TT.blocks, hm]))
          have sp : ∀ c ∈ X.blocks, c ≠ b ∧ c ∉ l.blocks := fun c hc => ⟨fun e => n2 (by rw [← e]; exact TT.spot_blocks (hd c hc (by simp [TT.blocks, e]))), fun hm => n5 c hm c (TT.spot_blocks (hd c hc (by simp [TT.blocks, hm]))) rfl⟩
          simp only [TT.blocks, List.nodup_cons, List.nodup_append, List.mem_append, not_or]
          refine ⟨⟨n1, fun hm => ?_⟩, n3, hr, fun c hc c' hc' e => ?_⟩
          · rcases TT.rsub_blocks _ hm with h | h
            · exact n2 h
            · exact (sp _ h).1 rfl
          · subst e
            rcases TT.rsub_blocks _ hc' with h | h
            · exact n5 _ hc _ h rfl
            · exact (sp _ h).2 hc
        · rename_i hb
          rw [if_neg hb] at hd
          have hr := il n3 (fun c hc hm => hd c hc (by simp [TT.blocks, hm]))
          have sp : ∀ c ∈ X.blocks, c ≠ b ∧ c ∉ r.blocks := fun c hc => ⟨fun e => n1 (by rw [← e]; exact TT.spot_blocks (hd c hc (by simp [TT.blocks, e]))), fun hm => n5 c (TT.spot_blocks (hd c hc (by simp [TT.blocks, hm]))) c hm rfl⟩
          simp only [TT.blocks, List.nodup_cons, List.nodup_append, List.mem_append, not_or]
          refine ⟨⟨fun hm => ?_, n2⟩, hr, n4, fun c hc c' hc' e => ?_⟩
          · rcases TT.rsub_blocks _ hm with h | h
            · exact n1 h
            · exact (sp _ h).1 rfl
          · subst e
            rcases TT.rsub_blocks _ hc with h | h
            · exact n5 _ h _ hc' rfl
            · exact (sp _ h).2 hc'
    · exact hX
theorem TT.spot_nodup {t : TT} {p : Key} (h : t.blocks.Nodup) : (t.spot p).blocks.Nodup := by
  induction t with
  | nil => exact h
  | node b k o l r il ir =>
    simp only [TT.spot]
    have h' := h
    simp only [TT.blocks, List.nodup_cons, List.nodup_append] at h'
    repeat' split
    · exact h
    · exact ir h'.2.2.1
    · exact il h'.2.1
    · exact h
/-- the place's block is none of the spot's -/
theorem TT.place_notin {t : TT} {p : Key} {a : Addr} (h : (a.block :: t.blocks).Nodup) : (t.place p a).block ∉ (t.spot p).blocks := by
  induction t generalizing a with
  | nil => simp [TT.spot, TT.blocks]
  | node b k o l r il ir =>
    have h' := h
    simp only [TT.blocks, List.nodup_cons, List.nodup_append, List.mem_append, not_or, List.mem_cons] at h'
    simp only [TT.spot, TT.place]
    repeat' split
    · exact (List.nodup_cons.1 h).1
    · exact ir (a := ⟨b, 5, none⟩) (List.nodup_cons.2 ⟨h'.2.1.2, h'.2.2.2.1⟩)
    · exact il (a := ⟨b, 4, none⟩) (List.nodup_cons.2 ⟨h'.2.1.1, h'.2.2.1⟩)
    · exact (List.nodup_cons.1 h).1

/-- the trie behind a write at a place -/
theorem TrS.turn {w w' : World} {q : Nat} {t X : TT} {p : Key} (h : TrS w q t) (hP : HangP w w' (t.place p ⟨q, 0, none⟩) (t.spot p) X) (hX : X.blocks.Nodup) (hnew : ∀ c ∈ X.blocks, c ∈ (t.spot p).blocks ∨ w.heap.size ≤ c)
    (hbox : w'.heap[q]? = some (.cells #[(t.rsub p X).ptr, .int .i64 (t.rsub p X).rows.length, .bool true] 84 (0, 0))) (hwf : (t.rsub p X).WF) : TrS w' q (t.rsub p X) := by
  have ht := h.at.turn (p := p) h.nodup (hP.turned fun c hc => h.blt hc) rfl
  have hn := List.nodup_cons.1 h.nodup
  refine ⟨hbox, ht.2, List.nodup_cons.2 ⟨fun hm => ?_, TT.rsub_nodup hn.2 hX fun c hc hm => ?_⟩, hwf⟩
  · rcases TT.rsub_blocks _ hm with h1 | h1
    · exact hn.1 h1
    · rcases hnew _ h1 with h2 | h2
      · exact hn.1 (TT.spot_blocks h2)
      · have := h.lt; omega
  · rcases hnew _ hc with h2 | h2
    · exact h2
    · have := h.here.lt hm; omega
end Go.Proofs.YtbacahoihkpkpaaDoor
