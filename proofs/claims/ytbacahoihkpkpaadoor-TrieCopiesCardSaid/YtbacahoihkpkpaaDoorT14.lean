/- Plain facts on tidying in memory, step by step. -/
import Derived.Test.YtbacahoihkpkpaaDoorT9
namespace Go.Proofs.YtbacahoihkpkpaaDoor
open Go.RowKit

namespace TT
theorem kept_blocks (t : TT) : ∀ c ∈ (kept t).blocks, c ∈ t.blocks := by
  cases t with
  | nil => exact fun _ h => h
  | node b k o l r =>
    cases o with
    | some v => exact fun _ h => h
    | none =>
      intro c hc
      simp only [kept] at hc
      simp only [blocks, List.mem_cons, List.mem_append]
      split at hc
      · exact .inr (.inr hc)
      · split at hc
        · exact .inr (.inl hc)
        · simpa [blocks] using hc
theorem kept_in {W : World} {t : TT} (h : t.In W) : (kept t).In W := by
  cases t with
  | nil => exact h
  | node b k o l r =>
    cases o with
    | some v => exact h
    | none =>
      simp only [kept]
      split
      · exact h.2.2
      · split
        · exact h.2.1
        · exact h
theorem tidyN_blocks (t : TT) (p : Key) (d : Nat) : ∀ c ∈ (t.tidyN p d).blocks, c ∈ t.blocks := by
  induction t generalizing d with
  | nil => exact fun _ h => h
  | node b k o l r il ir =>
    intro c hc
    simp only [tidyN] at hc
    have hr : ∀ d, c ∈ (TT.node b k o l (r.tidyN p d)).blocks → c ∈ (TT.node b k o l r).blocks := fun d h => by
      simp only [blocks, List.mem_cons, List.mem_append] at h ⊢
      rcases h with h | h | h
      · exact .inl h
      · exact .inr (.inl h)
      · exact .inr (.inr (ir d c h))
    have hl : ∀ d, c ∈ (TT.node b k o (l.tidyN p d) r).blocks → c ∈ (TT.node b k o l r).blocks := fun d h => by
      simp only [blocks, List.mem_cons, List.mem_append] at h ⊢
      rcases h with h | h | h
      · exact .inl h
      · exact .inr (.inl (il d c h))
      · exact .inr (.inr h)
    split at hc
    · split at hc
      · split at hc
        · exact kept_blocks _ c hc
        · exact hc
      · split at hc
        · split at hc
          · exact hr _ (kept_blocks _ c hc)
          · exact hr _ hc
        · split at hc
          · exact hl _ (kept_blocks _ c hc)
          · exact hl _ hc
    · exact hc
theorem tidyN_all {t : TT} {p : Key} {d : Nat} {a : Addr} (h : (t.way p a).length ≤ d) : t.tidyN p d = t := by
  induction t generalizing d a with
  | nil => rfl
  | node b k o l r il ir =>
    simp only [way] at h
    simp only [tidyN]
    split
    · rename_i hk
      rw [if_pos hk] at h
      split
      · rename_i hl
        rw [if_pos hl] at h
        simp only [List.length_cons, List.length_nil] at h
        rw [if_neg (by omega)]
      · rename_i hl
        rw [if_neg hl] at h
        simp only [List.length_cons] at h
        split
        · rename_i hb
          rw [if_pos hb] at h
          rw [if_neg (by omega), ir (d := d - 1) (a := ⟨b, 5, none⟩) (by omega)]
        · rename_i hb
          rw [if_neg hb] at h
          rw [if_neg (by omega), il (d := d - 1) (a := ⟨b, 4, none⟩) (by omega)]
    · rfl
theorem tidyN_ptr {t : TT} {p : Key} {d e : Nat} (hd : 0 < d) (he : 0 < e) : (t.tidyN p d).ptr = (t.tidyN p e).ptr := by
  cases t with
  | nil => rfl
  | node b k o l r =>
    simp only [tidyN]
    split
    · split
      · rw [if_neg (by omega), if_neg (by omega)]
      · split
        · rw [if_neg (by omega), if_neg (by omega)]; rfl
        · rw [if_neg (by omega), if_neg (by omega)]; rfl
    · rfl
end TT

/-- one step of tidying: the node at the i-th place gives way to what is kept of it -/
theorem tidy_step (t : TT) (p : Key) : ∀ (i : Nat) (a : Addr) (W : World) (y : Addr × TT), (t.way p a)[i]? = some y → TAt W a (t.tidyN p (i + 1)) → (a.block :: t.blocks).Nodup → a.spot = none →
    ∃ b k o l r, TAt W y.1 (.node b k o l r) ∧ TAt (W.setCell y.1 (TT.kept (.node b k o l r)).ptr) a (t.tidyN p i) ∧ y.1.spot = none ∧ (y.1.block = a.block ∨ y.1.block ∈ t.blocks) ∧ (i = 0 → y.1 = a) ∧ (0 < i → y.1.block ∈ t.blocks) := by
  induction t with
  | nil => intro i a W y h; simp [TT.way] at h
  | node b k o l r il ir =>
    intro i a W y h hT hn ha
    simp only [TT.way] at h
    simp only [TT.tidyN] at hT ⊢
    by_cases hk : k <+: p
    · rw [if_pos hk] at h hT ⊢
      have hnB := List.nodup_cons.1 hn
      have hX : ∀ (l' r' : TT), TAt W a (.node b k o l' r') → (∀ c ∈ (TT.node b k o l' r').blocks, c ∈ (TT.node b k o l r).blocks) → TAt (W.setCell a (TT.kept (.node b k o l' r')).ptr) a (TT.kept (.node b k o l' r')) := by
        intro l' r' h1 h2
        obtain ⟨ab, ao, as1⟩ := a
        simp only at ha
        subst ha
        refine ⟨World.cell?_setCell_same' _ _ _ (by rw [h1.1]; rfl), (TT.kept_in h1.2).of_blocks fun c hc => heapS _ _ _ _ c (fun e => hnB.1 (by rw [← show c = ab from e]; exact h2 c (TT.kept_blocks _ c hc)))⟩
      by_cases hl : k.length = p.length
      · rw [if_pos hl] at h hT ⊢
        rw [if_neg (by omega)] at hT
        cases i with
        | zero =>
          simp at h
          subst h
          rw [if_pos rfl]
          exact ⟨b, k, o, l, r, hT, hX _ _ hT (fun c hc => hc), ha, .inl rfl, fun _ => rfl, fun h => absurd h (by omega)⟩
        | succ i => simp at h
      · rw [if_neg hl] at h hT ⊢
        have hn2 := hnB.2
        simp only [TT.blocks, List.nodup_cons, List.nodup_append, List.mem_append, not_or] at hn2
        obtain ⟨⟨m1, m2⟩, m3, m4, m5⟩ := hn2
        have hab := hnB.1
        simp only [TT.blocks, List.mem_cons, List.mem_append, not_or] at hab
        cases hbit : p.getD k.length false with
        | true =>
          simp only [hbit, if_true] at h hT ⊢
          rw [if_neg (by omega), show i + 1 - 1 = i by omega] at hT
          cases i with
          | zero =>
            simp at h
            subst h
            rw [if_pos rfl]
            refine ⟨b, k, o, l, r.tidyN p 0, hT, hX _ _ hT (fun c hc => ?_), ha, .inl rfl, fun _ => rfl, fun h => absurd h (by omega)⟩
            simp only [TT.blocks, List.mem_cons, List.mem_append] at hc ⊢
            rcases hc with h | h | h
            · exact .inl h
            · exact .inr (.inl h)
            · exact .inr (.inr (TT.tidyN_blocks _ _ _ c h))
          | succ i =>
            simp only [List.getElem?_cons_succ] at h
            obtain ⟨b2, k2, o2, l2, r2, h1, h2, h3, h4, h5, h6⟩ := ir i ⟨b, 5, none⟩ W y h hT.r (List.nodup_cons.2 ⟨m2, m4⟩) rfl
            rw [if_neg (by omega), show i + 1 - 1 = i by omega]
            obtain ⟨⟨yb, yo, ys⟩, s⟩ := y
            simp only at h1 h2 h3 h4 h5 h6 ⊢
            subst h3
            have hyb : yb = b ∨ yb ∈ r.blocks := h4
            refine ⟨b2, k2, o2, l2, r2, h1, ⟨?_, ?_, ?_, h2.2⟩, rfl, .inr (by simp only [TT.blocks, List.mem_cons, List.mem_append]; rcases hyb with h | h; exact .inl h; exact .inr (.inr h)), fun h => absurd h (by omega), fun _ => by simp only [TT.blocks, List.mem_cons, List.mem_append]; rcases hyb with h | h; exact .inl h; exact .inr (.inr h)⟩
            · obtain ⟨ab, ao, as1⟩ := a
              simp only at ha hab
              subst ha
              rw [World.cell?_of_block (w := W) (heapS _ _ _ _ ab (by rcases hyb with h | h; exact fun e => hab.1 (e.trans h); exact fun e => hab.2.2 (by rw [e]; exact h)))]
              exact hT.1
            · rcases Nat.eq_zero_or_pos i with hi | hi
              · have e := h5 hi
                simp only [Addr.mk.injEq] at e
                obtain ⟨rfl, rfl, _⟩ := e
                have e2 := h2.1
                rw [World.cell?_setCell_same' _ _ _ (by rw [h1.1]; rfl)] at e2
                have := heap_set (o := 5) (TT.kept (.node b2 k2 o2 l2 r2)).ptr hT.2.1
                refine this.trans ?_
                rw [Option.some.inj e2]
                rfl
              · have hne : b ≠ yb := fun e => m2 (by rw [e]; exact h6 hi)
                refine (heapS _ _ _ _ b hne).trans (hT.2.1.trans ?_)
                unfold nodeO
                rw [TT.tidyN_ptr (d := i + 1) (e := i) (by omega) hi]
            · exact hT.2.2.1.of_blocks fun c hc => heapS _ _ _ _ c (by rcases hyb with h | h; exact fun e => m1 (by rw [← h, ← show c = yb from e]; exact hc); exact fun e => m5 c hc yb h (show c = yb from e))
        | false =>
          simp only [hbit, Bool.false_eq_true, if_false] at h hT ⊢
          rw [if_neg (by omega), show i + 1 - 1 = i by omega] at hT
          cases i with
          | zero =>
            simp at h
            subst h
            rw [if_pos rfl]
            refine ⟨b, k, o, l.tidyN p 0, r, hT, hX _ _ hT (fun c hc => ?_), ha, .inl rfl, fun _ => rfl, fun h => absurd h (by omega)⟩
            simp only [TT.blocks, List.mem_cons, List.mem_append] at hc ⊢
            rcases hc with h | h | h
            · exact .inl h
            · exact .inr (.inl (TT.tidyN_blocks _ _ _ c h))
            · exact .inr (.inr h)
          | succ i =>
            simp only [List.getElem?_cons_succ] at h
            obtain ⟨b2, k2, o2, l2, r2, h1, h2, h3, h4, h5, h6⟩ := il i ⟨b, 4, none⟩ W y h hT.l (List.nodup_cons.2 ⟨m1, m3⟩) rfl
            rw [if_neg (by omega), show i + 1 - 1 = i by omega]
            obtain ⟨⟨yb, yo, ys⟩, s⟩ := y
            simp only at h1 h2 h3 h4 h5 h6 ⊢
            subst h3
            have hyb : yb = b ∨ yb ∈ l.blocks := h4
            refine ⟨b2, k2, o2, l2, r2, h1, ⟨?_, ?_, h2.2, ?_⟩, rfl, .inr (by simp only [TT.blocks, List.mem_cons, List.mem_append]; rcases hyb with h | h; exact .inl h; exact .inr (.inl h)), fun h => absurd h (by omega), fun _ => by simp only [TT.blocks, List.mem_cons, List.mem_append]; rcases hyb with h | h; exact .inl h; exact .inr (.inl h)⟩
            · obtain ⟨ab, ao, as1⟩ := a
              simp only at ha hab
              subst ha
              rw [World.cell?_of_block (w := W) (heapS _ _ _ _ ab (by rcases hyb with h | h; exact fun e => hab.1 (e.trans h); exact fun e => hab.2.1 (by rw [e]; exact h)))]
              exact hT.1
            · rcases Nat.eq_zero_or_pos i with hi | hi
              · have e := h5 hi
                simp only [Addr.mk.injEq] at e
                obtain ⟨rfl, rfl, _⟩ := e
                have e2 := h2.1
                rw [World.cell?_setCell_same' _ _ _ (by rw [h1.1]; rfl)] at e2
                have := heap_set (o := 4) (TT.kept (.node b2 k2 o2 l2 r2)).ptr hT.2.1
                refine this.trans ?_
                rw [Option.some.inj e2]
                rfl
              · have hne : b ≠ yb := fun e => m1 (by rw [e]; exact h6 hi)
                refine (heapS _ _ _ _ b hne).trans (hT.2.1.trans ?_)
                unfold nodeO
                rw [TT.tidyN_ptr (d := i + 1) (e := i) (by omega) hi]
            · exact hT.2.2.2.of_blocks fun c hc => heapS _ _ _ _ c (by rcases hyb with h | h; exact fun e => m2 (by rw [← h, ← show c = yb from e]; exact hc); exact fun e => m5 yb h c hc (show c = yb from e).symm)
    · rw [if_neg hk] at h; simp at h
end Go.Proofs.YtbacahoihkpkpaaDoor
