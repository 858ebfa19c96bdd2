/- The longest prefix around an address: by the trie, by the law's loop. -/
import Derived.Test.YtbacahoihkpkpaaDoorT28
namespace Go.Proofs.YtbacahoihkpkpaaDoor
open Go.RowKit Go.Shelf Go.Maps

/-- the longest key in s that is ahead of A -/
def Best (A : Key) (s : TT) : Option Key → Prop
  | none => ∀ x u, (x, u) ∈ s.rows → ¬ x <+: A
  | some y => (∃ u, (y, u) ∈ s.rows) ∧ y <+: A ∧ ∀ x u, (x, u) ∈ s.rows → x <+: A → x.length ≤ y.length
theorem Best.start {A : Key} : Best A .nil none := fun x u h => by simp [TT.rows] at h
theorem Best.uniq {A : Key} {s : TT} {o o' : Option Key} (h : Best A s o) (h' : Best A s o') : o = o' := by
  cases o with
  | none =>
    cases o' with
    | none => rfl
    | some y => exact absurd h'.2.1 (h y _ h'.1.choose_spec)
  | some x =>
    cases o' with
    | none => exact absurd h.2.1 (h' x _ h.1.choose_spec)
    | some y =>
      have h1 := h.2.2 y _ h'.1.choose_spec h'.2.1
      have h2 := h'.2.2 x _ h.1.choose_spec h.2.1
      have e1 := List.prefix_iff_eq_take.1 h.2.1
      have e2 := List.prefix_iff_eq_take.1 h'.2.1
      rw [e1, e2, show x.length = y.length by omega]
theorem Best.rows {A : Key} {s s' : TT} {o : Option Key} (h : Best A s o) (e : s.rows = s'.rows) : Best A s' o := by
  cases o with
  | none => exact fun x u hx => h x u (by rw [e]; exact hx)
  | some y => exact ⟨by rw [← e]; exact h.1, h.2.1, fun x u hx => h.2.2 x u (by rw [e]; exact hx)⟩
theorem klt_pre_len {x y A : Key} (h : klt x y) (hx : x <+: A) (hy : y <+: A) (hA : A.length = 32) : x.length ≤ y.length := by
  rcases Nat.lt_or_ge y.length x.length with hl | hl
  · have hp := List.prefix_of_prefix_length_le hy hx (Nat.le_of_lt hl)
    have := klt_pre (by rw [← hA]; exact hx.length_le) hp (fun e => by rw [e] at hl; omega)
    exact absurd this (klt_asymm h)
  · exact hl
/-- what Find tells is the longest -/
theorem best_above {A : Key} {t : TT} (h : t.WF) (hA : A.length = 32) : Best A t ((t.above A).getLast?.map (·.1)) := by
  rw [TT.above_eq h]
  have hO : TT.OrdR (t.rows.filter fun x => decide (x.1 <+: A)) := h.rows.sublist List.filter_sublist
  have hm : ∀ x, x ∈ (t.rows.filter fun x => decide (x.1 <+: A)) ↔ x ∈ t.rows ∧ x.1 <+: A := fun x => by simp [List.mem_filter]
  revert hO hm
  generalize (t.rows.filter fun x => decide (x.1 <+: A)) = L
  intro hO hm
  rcases List.eq_nil_or_concat L with rfl | ⟨M, y, rfl⟩
  · intro x u hx hp
    have := (hm (x, u)).2 ⟨hx, hp⟩
    simp at this
  · simp only [List.concat_eq_append, List.getLast?_append, List.getLast?_singleton, Option.some_or, Option.map_some] at hm ⊢
    have hy := (hm y).1 (by simp)
    refine ⟨⟨y.2, hy.1⟩, hy.2, fun x u hx hp => ?_⟩
    have hxm := (hm (x, u)).2 ⟨hx, hp⟩
    rcases List.mem_append.1 hxm with h1 | h1
    · have hlt : klt x y.1 := by
        have := (List.pairwise_append.1 (by unfold TT.OrdR at hO; simpa [List.concat_eq_append] using hO)).2.2 (x, u) h1 y (by simp)
        exact this
      exact klt_pre_len hlt hp hy.2 hA
    · simp at h1
      rw [← h1]
      exact Nat.le_refl _
theorem Best.put {A : Key} {s s' : TT} {p : Key} {v : Int} {o : Option Key} (h : Best A s o) (hs : PutR s s' p v) :
    Best A s' (if p <+: A then (match o with | none => some p | some y => if y.length < p.length then some p else some y) else o) := by
  cases o with
  | none =>
    by_cases hp : p <+: A
    · rw [if_pos hp]
      refine ⟨⟨v, (hs p v).2 (.inl ⟨rfl, rfl⟩)⟩, hp, fun x u hx hxp => ?_⟩
      rcases (hs x u).1 hx with ⟨rfl, _⟩ | ⟨_, h1⟩
      · exact Nat.le_refl _
      · exact absurd hxp (h x u h1)
    · rw [if_neg hp]
      intro x u hx
      rcases (hs x u).1 hx with ⟨rfl, _⟩ | ⟨_, h1⟩
      · exact hp
      · exact h x u h1
  | some y =>
    obtain ⟨⟨uy, hy⟩, hyp, hmx⟩ := h
    have hyin : ∃ u, (y, u) ∈ s'.rows := by
      by_cases e : y = p
      · exact ⟨v, (hs y v).2 (.inl ⟨e, rfl⟩)⟩
      · exact ⟨uy, (hs y uy).2 (.inr ⟨e, hy⟩)⟩
    by_cases hp : p <+: A
    · rw [if_pos hp]
      simp only
      split
      · rename_i hlt
        refine ⟨⟨v, (hs p v).2 (.inl ⟨rfl, rfl⟩)⟩, hp, fun x u hx hxp => ?_⟩
        rcases (hs x u).1 hx with ⟨rfl, _⟩ | ⟨_, h1⟩
        · exact Nat.le_refl _
        · have := hmx x u h1 hxp; omega
      · rename_i hge
        refine ⟨hyin, hyp, fun x u hx hxp => ?_⟩
        rcases (hs x u).1 hx with ⟨rfl, _⟩ | ⟨_, h1⟩
        · omega
        · exact hmx x u h1 hxp
    · rw [if_neg hp]
      refine ⟨hyin, hyp, fun x u hx hxp => ?_⟩
      rcases (hs x u).1 hx with ⟨rfl, _⟩ | ⟨_, h1⟩
      · exact absurd hxp hp
      · exact hmx x u h1 hxp
/-- a write to a box that is no trie's -/
theorem TW.setBox {w0 W : World} {q B : Nat} {t : TT} {a n : Int} (h : TW w0 W q t) (hB : PBox W B a n) (hge : w0.heap.size ≤ B) (h0 : B ≠ 0) (o : Nat) (v : Value) : TW w0 (W.setCell ⟨B, o, none⟩ v) q t :=
  ⟨h.st.of_blocks fun c hc => heapS _ _ _ _ c (fun e => hB.notin h.st (e ▸ hc)), h.rel.kp (heapS _ _ _ _ 0 (fun e => h0 e.symm)), h.bl.setCell (p := ⟨B, o, none⟩) hge v, h.ge⟩
theorem T2.setBox {w0 W : World} {q r B : Nat} {t s : TT} {a n : Int} (a' n' : Int) (h : T2 w0 W q t r s) (hB : PBox W B a n) (hge : w0.heap.size ≤ B) (h0 : B ≠ 0) :
    T2 w0 ((W.setCell ⟨B, 0, none⟩ (.int .u32 a')).setCell ⟨B, 1, none⟩ (.int .i64 n')) q t r s ∧ PBox ((W.setCell ⟨B, 0, none⟩ (.int .u32 a')).setCell ⟨B, 1, none⟩ (.int .i64 n')) B a' n' := by
  have hk : ∀ c, c ≠ B → ((W.setCell ⟨B, 0, none⟩ (.int .u32 a')).setCell ⟨B, 1, none⟩ (.int .i64 n')).heap[c]? = W.heap[c]? := fun c hc => (heapS _ _ _ _ c hc).trans (heapS _ _ _ _ c hc)
  have hb : Below w0.heap.size w0 ((W.setCell ⟨B, 0, none⟩ (.int .u32 a')).setCell ⟨B, 1, none⟩ (.int .i64 n')) := (h.a.bl.setCell (p := ⟨B, 0, none⟩) hge _).setCell (p := ⟨B, 1, none⟩) hge _
  have hr := h.a.rel.kp (hk 0 (fun e => h0 e.symm))
  exact ⟨⟨⟨h.a.st.of_blocks fun c hc => hk c (fun e => hB.notin h.a.st (e ▸ hc)), hr, hb, h.a.ge⟩, ⟨h.b.st.of_blocks fun c hc => hk c (fun e => hB.notin h.b.st (e ▸ hc)), hr, hb, h.b.ge⟩, h.d⟩, hB.set a' n'⟩
end Go.Proofs.YtbacahoihkpkpaaDoor
