/- Plain: trees over keys; put, take, what is found. No program in sight. -/
import Derived.Test.YtbacahoihkpkpaaDoorQ1
namespace Go.Proofs.YtbacahoihkpkpaaDoor

/-- a trie's nodes, each with the block in which it lies -/
inductive TT where
  | nil
  | node (b : Nat) (k : Key) (o : Option Int) (l r : TT)

namespace TT
def sz : TT → Nat
  | nil => 0
  | node _ _ _ l r => l.sz + r.sz + 1
def dp : TT → Nat
  | nil => 0
  | node _ _ _ l r => max l.dp r.dp + 1
def keys : TT → List Key
  | nil => []
  | node _ k _ l r => k :: (l.keys ++ r.keys)
def rowO (k : Key) : Option Int → List (Key × Int)
  | some v => [(k, v)]
  | none => []
def rows : TT → List (Key × Int)
  | nil => []
  | node _ k o l r => rowO k o ++ (l.rows ++ r.rows)
def blocks : TT → List Nat
  | nil => []
  | node b _ _ l r => b :: (l.blocks ++ r.blocks)
def isN : TT → Bool
  | nil => true
  | node .. => false
/-- the nodes stand as they should -/
def WF : TT → Prop
  | nil => True
  | node _ k o l r => k.length ≤ 32 ∧ (∀ x ∈ l.keys, k ++ [false] <+: x) ∧ (∀ x ∈ r.keys, k ++ [true] <+: x) ∧ (o = none → l.isN = false ∧ r.isN = false) ∧ l.WF ∧ r.WF

theorem isN_iff {t : TT} : t.isN = true ↔ t = nil := by cases t <;> simp [isN]
theorem keys_len {t : TT} : t.keys.length = t.sz := by
  induction t with
  | nil => rfl
  | node b k o l r il ir => simp [keys, sz, il, ir]
theorem rows_keys {t : TT} {x : Key} {v : Int} (h : (x, v) ∈ t.rows) : x ∈ t.keys := by
  induction t with
  | nil => simp [rows] at h
  | node b k o l r il ir =>
    simp only [rows, List.mem_append] at h
    simp only [keys, List.mem_cons, List.mem_append]
    rcases h with h | h | h
    · cases o <;> simp [rowO] at h
      exact .inl h.1
    · exact .inr (.inl (il h))
    · exact .inr (.inr (ir h))
theorem WF.len {t : TT} (h : t.WF) {x : Key} (hx : x ∈ t.keys) : x.length ≤ 32 := by
  induction t with
  | nil => simp [keys] at hx
  | node b k o l r il ir =>
    obtain ⟨h1, _, _, _, h5, h6⟩ := h
    simp only [keys, List.mem_cons, List.mem_append] at hx
    rcases hx with rfl | hx | hx
    · exact h1
    · exact il h5 hx
    · exact ir h6 hx
/-- the keys stand in order -/
theorem WF.ord {t : TT} (h : t.WF) : t.keys.Pairwise klt := by
  induction t with
  | nil => exact List.Pairwise.nil
  | node b k o l r il ir =>
    obtain ⟨h1, h2, h3, h4, h5, h6⟩ := h
    simp only [keys, List.pairwise_cons, List.pairwise_append, List.mem_append]
    refine ⟨fun x hx => ?_, il h5, ir h6, fun x hx y hy => ?_⟩
    · rcases hx with hx | hx
      · have := h2 x hx
        refine klt_pre (h5.len hx) ((List.prefix_append _ _).trans this) ?_
        rintro rfl
        have := this.length_le
        simp at this
        omega
      · have := h3 x hx
        refine klt_pre (h6.len hx) ((List.prefix_append _ _).trans this) ?_
        rintro rfl
        have := this.length_le
        simp at this
        omega
    · have := (h2 x hx).length_le
      have h32 := h5.len hx
      simp at this
      exact klt_bits (by omega) (h2 x hx) (h3 y hy)
theorem rows_sub {t : TT} : (t.rows.map (·.1)).Sublist t.keys := by
  induction t with
  | nil => exact List.Sublist.slnil
  | node b k o l r il ir =>
    simp only [rows, keys, List.map_append]
    cases o with
    | none => exact (il.append ir).cons _
    | some v => exact (il.append ir).cons_cons _
/-- rows in order -/
def OrdR (L : List (Key × Int)) : Prop := L.Pairwise fun x y => klt x.1 y.1
theorem WF.rows {t : TT} (h : t.WF) : OrdR t.rows := by
  have := h.ord.sublist t.rows_sub
  rwa [List.pairwise_map] at this
theorem isN_rows {t : TT} (h : t.WF) (hn : t.isN = false) : ∃ x v, (x, v) ∈ t.rows := by
  induction t with
  | nil => simp [isN] at hn
  | node b k o l r il ir =>
    obtain ⟨_, _, _, h4, h5, _⟩ := h
    cases o with
    | some v => exact ⟨k, v, by simp [TT.rows, rowO]⟩
    | none =>
      obtain ⟨x, v, hx⟩ := il h5 (h4 rfl).1
      exact ⟨x, v, by simp [TT.rows, hx]⟩
end TT

/-- two lists in order with the same members are the same -/
theorem ord_ext {α : Type} {R : α → α → Prop} (hi : ∀ a, ¬ R a a) (ha : ∀ a b, R a b → ¬ R b a) {L M : List α} (h1 : L.Pairwise R) (h2 : M.Pairwise R) (h : ∀ x, x ∈ L ↔ x ∈ M) : L = M := by
  induction L generalizing M with
  | nil =>
    cases M with
    | nil => rfl
    | cons y M => exact absurd ((h y).2 (List.mem_cons_self ..)) (by simp)
  | cons x L ih =>
    cases M with
    | nil => exact absurd ((h x).1 (List.mem_cons_self ..)) (by simp)
    | cons y M =>
      rw [List.pairwise_cons] at h1 h2
      have e : x = y := by
        rcases List.mem_cons.1 ((h x).1 (List.mem_cons_self ..)) with e | e
        · exact e
        · rcases List.mem_cons.1 ((h y).2 (List.mem_cons_self ..)) with e2 | e2
          · exact e2.symm
          · exact absurd (h1.1 _ e2) (ha _ _ (h2.1 _ e))
      subst e
      congr 1
      refine ih h1.2 h2.2 fun z => ⟨fun hz => ?_, fun hz => ?_⟩
      · rcases List.mem_cons.1 ((h z).1 (List.mem_cons_of_mem _ hz)) with e | e
        · subst e; exact absurd (h1.1 _ hz) (hi _)
        · exact e
      · rcases List.mem_cons.1 ((h z).2 (List.mem_cons_of_mem _ hz)) with e | e
        · subst e; exact absurd (h2.1 _ hz) (hi _)
        · exact e
theorem ordR_ext {L M : List (Key × Int)} (h1 : TT.OrdR L) (h2 : TT.OrdR M) (h : ∀ x, x ∈ L ↔ x ∈ M) : L = M :=
  ord_ext (R := fun (x y : Key × Int) => klt x.1 y.1) (fun _ => klt_irrefl _) (fun _ _ => klt_asymm) h1 h2 h

namespace TT
/-- the value of a key, as the way down finds it -/
def get : TT → Key → Option Int
  | nil, _ => none
  | node _ k o l r, p => if k <+: p then (if k.length = p.length then o else if p.getD k.length false then r.get p else l.get p) else none
theorem rowO_mem {k x : Key} {o : Option Int} {v : Int} : (x, v) ∈ rowO k o ↔ x = k ∧ o = some v := by
  cases o with
  | none => simp [rowO]
  | some u => simp [rowO, eq_comm]
theorem pre_len {k p : Key} (h : k <+: p) : k.length = p.length ↔ k = p := ⟨fun e => h.eq_of_length e, fun e => by rw [e]⟩
theorem get_iff {t : TT} (h : t.WF) (p : Key) (v : Int) : t.get p = some v ↔ (p, v) ∈ t.rows := by
  induction t with
  | nil => simp [get, TT.rows]
  | node b k o l r il ir =>
    obtain ⟨h1, h2, h3, h4, h5, h6⟩ := h
    simp only [get, TT.rows, List.mem_append, rowO_mem]
    have nl : k ++ [true] <+: p → (p, v) ∉ l.rows := fun hp hm => pre_bits_ne (h2 _ (rows_keys hm)) hp (List.prefix_refl _)
    have nr : k ++ [false] <+: p → (p, v) ∉ r.rows := fun hp hm => pre_bits_ne (h3 _ (rows_keys hm)) hp (List.prefix_refl _)
    have nl2 : ¬ k <+: p → (p, v) ∉ l.rows := fun hp hm => hp ((List.prefix_append _ _).trans (h2 _ (rows_keys hm)))
    have nr2 : ¬ k <+: p → (p, v) ∉ r.rows := fun hp hm => hp ((List.prefix_append _ _).trans (h3 _ (rows_keys hm)))
    by_cases hk : k <+: p
    · rw [if_pos hk]
      by_cases hl : k.length = p.length
      · rw [if_pos hl]
        have e := (pre_len hk).1 hl
        subst e
        have a1 : (k, v) ∉ l.rows := fun hm => not_pre_short (h2 _ (rows_keys hm)) (List.prefix_refl _)
        have a2 : (k, v) ∉ r.rows := fun hm => not_pre_short (h3 _ (rows_keys hm)) (List.prefix_refl _)
        simp [a1, a2]
      · rw [if_neg hl]
        have hne : k ≠ p := fun e => hl (by rw [e])
        have hb := (pre_bit hk hne).1
        cases hp : p.getD k.length false with
        | true =>
          rw [hp] at hb
          simp only [if_true, ir h6]
          constructor
          · exact fun h => .inr (.inr h)
          · rintro (⟨e, _⟩ | h | h)
            · exact absurd e.symm hne
            · exact absurd h (nl hb)
            · exact h
        | false =>
          rw [hp] at hb
          simp only [Bool.false_eq_true, if_false, il h5]
          constructor
          · exact fun h => .inr (.inl h)
          · rintro (⟨e, _⟩ | h | h)
            · exact absurd e.symm hne
            · exact h
            · exact absurd h (nr hb)
    · rw [if_neg hk]
      constructor
      · intro h; cases h
      · rintro (⟨e, _⟩ | h | h)
        · exact absurd (by rw [e]; exact List.prefix_refl _) hk
        · exact absurd h (nl2 hk)
        · exact absurd h (nr2 hk)

/-- the rows on the way down -/
def above : TT → Key → List (Key × Int)
  | nil, _ => []
  | node _ k o l r, p => if k <+: p then rowO k o ++ (if k.length = p.length then [] else if p.getD k.length false then r.above p else l.above p) else []
theorem rowO_filter {k p : Key} {o : Option Int} (h : k <+: p) : (rowO k o).filter (fun x => decide (x.1 <+: p)) = rowO k o := by
  cases o <;> simp [rowO, h]
theorem filter_none {L : List (Key × Int)} {p : Key} (h : ∀ x v, (x, v) ∈ L → ¬ x <+: p) : L.filter (fun x => decide (x.1 <+: p)) = [] := by
  rw [List.filter_eq_nil_iff]
  intro x hx
  simpa using h x.1 x.2 hx
theorem above_eq {t : TT} (h : t.WF) (p : Key) : t.above p = t.rows.filter (fun x => decide (x.1 <+: p)) := by
  induction t with
  | nil => rfl
  | node b k o l r il ir =>
    obtain ⟨h1, h2, h3, h4, h5, h6⟩ := h
    simp only [above, TT.rows, List.filter_append]
    by_cases hk : k <+: p
    · rw [if_pos hk, rowO_filter hk]
      congr 1
      by_cases hl : k.length = p.length
      · rw [if_pos hl]
        have e := (pre_len hk).1 hl
        subst e
        rw [filter_none fun x v hx => not_pre_short (h2 _ (rows_keys hx)), filter_none fun x v hx => not_pre_short (h3 _ (rows_keys hx))]
        rfl
      · rw [if_neg hl]
        have hne : k ≠ p := fun e => hl (by rw [e])
        have hb := (pre_bit hk hne).1
        cases hp : p.getD k.length false with
        | true =>
          rw [hp] at hb
          simp only [if_true, ir h6]
          rw [filter_none (L := l.rows) fun x v hx => pre_bits_ne (h2 _ (rows_keys hx)) hb]
          rfl
        | false =>
          rw [hp] at hb
          simp only [Bool.false_eq_true, if_false, il h5]
          rw [filter_none (L := r.rows) fun x v hx => pre_bits_ne (h3 _ (rows_keys hx)) hb]
          simp
    · rw [if_neg hk]
      have e0 : (rowO k o).filter (fun x => decide (x.1 <+: p)) = [] := filter_none fun x v hx => by rw [rowO_mem] at hx; rw [hx.1]; exact hk
      rw [e0, filter_none fun x v hx hp => hk ((List.prefix_append _ _).trans ((h2 _ (rows_keys hx)).trans hp)), filter_none fun x v hx hp => hk ((List.prefix_append _ _).trans ((h3 _ (rows_keys hx)).trans hp))]
      rfl

/-- where p stands, or would stand: the subtree there -/
def spot : TT → Key → TT
  | nil, _ => nil
  | node b k o l r, p => if k <+: p then (if k.length = p.length then node b k o l r else if p.getD k.length false then r.spot p else l.spot p) else node b k o l r
/-- another subtree there -/
def rsub : TT → Key → TT → TT
  | nil, _, X => X
  | node b k o l r, p, X => if k <+: p then (if k.length = p.length then X else if p.getD k.length false then node b k o l (r.rsub p X) else node b k o (l.rsub p X) r) else X
theorem rsub_spot (t : TT) (p : Key) : t.rsub p (t.spot p) = t := by
  induction t with
  | nil => rfl
  | node b k o l r il ir =>
    simp only [rsub, spot]
    repeat' split
    · rfl
    · rw [ir]
    · rw [il]
    · rfl
theorem get_spot (t : TT) (p : Key) : t.get p = match t.spot p with
    | nil => none
    | node _ k o _ _ => if k = p then o else none := by
  induction t with
  | nil => rfl
  | node b k o l r il ir =>
    simp only [get, spot]
    by_cases hk : k <+: p
    · simp only [if_pos hk]
      by_cases hl : k.length = p.length
      · simp [(pre_len hk).1 hl]
      · simp only [if_neg hl]
        split
        · exact ir
        · exact il
    · simp only [if_neg hk]
      rw [if_neg fun e => hk (by rw [e]; exact List.prefix_refl _)]

/-- a key with a value at its place -/
def hang (b1 b2 : Nat) (p : Key) (v : Int) : TT → TT
  | nil => node b1 p (some v) nil nil
  | node b k o l r => if k = p then node b k (some v) l r
    else if lcp k p = p then (if k.getD p.length false then node b1 p (some v) nil (node b k o l r) else node b1 p (some v) (node b k o l r) nil)
    else if p.getD (lcp k p).length false then node b2 (lcp k p) none (node b k o l r) (node b1 p (some v) nil nil) else node b2 (lcp k p) none (node b1 p (some v) nil nil) (node b k o l r)
def put (b1 b2 : Nat) (t : TT) (p : Key) (v : Int) : TT := t.rsub p (hang b1 b2 p v (t.spot p))

theorem spot_top {t : TT} {p : Key} {b : Nat} {k : Key} {o : Option Int} {l r : TT} (h : t.spot p = node b k o l r) : k = p ∨ ¬ k <+: p := by
  induction t with
  | nil => simp [spot] at h
  | node b' k' o' l' r' il ir =>
    simp only [spot] at h
    by_cases hk : k' <+: p
    · rw [if_pos hk] at h
      by_cases hl : k'.length = p.length
      · rw [if_pos hl] at h
        cases h
        exact .inl ((pre_len hk).1 hl)
      · rw [if_neg hl] at h
        split at h
        · exact ir h
        · exact il h
    · rw [if_neg hk] at h
      cases h
      exact .inr hk
theorem keys_pre {q : Key} {b : Nat} {k : Key} {o : Option Int} {l r : TT} (h : (node b k o l r).WF) (hq : q <+: k) : ∀ x ∈ (node b k o l r).keys, q <+: x := by
  obtain ⟨_, h2, h3, _⟩ := h
  intro x hx
  simp only [keys, List.mem_cons, List.mem_append] at hx
  rcases hx with rfl | hx | hx
  · exact hq
  · exact hq.trans ((List.prefix_append _ _).trans (h2 x hx))
  · exact hq.trans ((List.prefix_append _ _).trans (h3 x hx))
theorem hang_ok {t : TT} (h : t.WF) {p : Key} {v : Int} (hp : p.length ≤ 32) (b1 b2 : Nat) (ht : ∀ b k o l r, t = node b k o l r → k = p ∨ ¬ k <+: p) :
    (hang b1 b2 p v t).WF ∧ (∀ q, (∀ x ∈ t.keys, q <+: x) → q <+: p → ∀ x ∈ (hang b1 b2 p v t).keys, q <+: x) ∧ (∀ x u, (x, u) ∈ (hang b1 b2 p v t).rows ↔ x = p ∧ u = v ∨ x ≠ p ∧ (x, u) ∈ t.rows) := by
  cases t with
  | nil =>
    simp only [hang]
    refine ⟨⟨hp, by simp [keys], by simp [keys], by simp, trivial, trivial⟩, fun q _ hq x hx => ?_, fun x u => ?_⟩
    · simp [keys] at hx; rw [hx]; exact hq
    · simp [TT.rows, rowO]
  | node b k o l r =>
    have hW := h
    obtain ⟨h1, h2, h3, h4, h5, h6⟩ := h
    simp only [hang]
    by_cases hk : k = p
    · subst hk
      rw [if_pos rfl]
      refine ⟨⟨h1, h2, h3, by simp, h5, h6⟩, fun q hq _ x hx => hq x hx, fun x u => ?_⟩
      have a1 : (k, u) ∉ l.rows := fun hm => not_pre_short (h2 _ (rows_keys hm)) (List.prefix_refl _)
      have a2 : (k, u) ∉ r.rows := fun hm => not_pre_short (h3 _ (rows_keys hm)) (List.prefix_refl _)
      simp only [TT.rows, List.mem_append, rowO_mem]
      constructor
      · rintro (⟨rfl, e⟩ | h)
        · exact .inl ⟨rfl, (Option.some.inj e).symm⟩
        · by_cases hx : x = k
          · subst hx; rcases h with h | h
            · exact absurd h a1
            · exact absurd h a2
          · exact .inr ⟨hx, .inr h⟩
      · rintro (⟨rfl, rfl⟩ | ⟨hx, ⟨e, _⟩ | h⟩)
        · exact .inl ⟨rfl, rfl⟩
        · exact absurd e hx
        · exact .inr h
    · rw [if_neg hk]
      have hnp : ¬ k <+: p := by
        rcases ht b k o l r rfl with e | e
        · exact absurd e hk
        · exact e
      have hpr : ∀ u, (p, u) ∉ (node b k o l r).rows := fun u hm => hnp (by
        exact keys_pre hW (List.prefix_refl k) p (rows_keys hm))
      by_cases hc : lcp k p = p
      · have hpk : p <+: k := by rw [← hc]; exact lcp_left k p
        obtain ⟨hb, hlt⟩ := pre_bit hpk (fun e => hk e.symm)
        have hall := keys_pre hW hb
        rw [if_pos hc]
        cases hbit : k.getD p.length false with
        | true =>
          rw [hbit] at hall
          simp only [if_true]
          refine ⟨⟨hp, by simp [keys], hall, by simp, trivial, hW⟩, fun q hq hqp x hx => ?_, fun x u => ?_⟩
          · simp only [keys, List.mem_cons, List.mem_append, List.not_mem_nil, false_or] at hx
            rcases hx with rfl | hx
            · exact hqp
            · exact hq x (by simpa [keys] using hx)
          · rw [show (node b1 p (some v) nil (node b k o l r)).rows = (p, v) :: (node b k o l r).rows by simp [TT.rows, rowO]]
            rw [List.mem_cons]
            constructor
            · rintro (e | h)
              · cases e; exact .inl ⟨rfl, rfl⟩
              · exact .inr ⟨fun e => hpr u (by rw [← e]; exact h), h⟩
            · rintro (⟨rfl, rfl⟩ | ⟨_, h⟩)
              · exact .inl rfl
              · exact .inr h
        | false =>
          rw [hbit] at hall
          simp only [Bool.false_eq_true, if_false]
          refine ⟨⟨hp, hall, by simp [keys], by simp, hW, trivial⟩, fun q hq hqp x hx => ?_, fun x u => ?_⟩
          · simp only [keys, List.mem_cons, List.mem_append, List.not_mem_nil, or_false] at hx
            rcases hx with rfl | hx
            · exact hqp
            · exact hq x (by simpa [keys] using hx)
          · rw [show (node b1 p (some v) (node b k o l r) nil).rows = (p, v) :: (node b k o l r).rows by simp [TT.rows, rowO]]
            rw [List.mem_cons]
            constructor
            · rintro (e | h)
              · cases e; exact .inl ⟨rfl, rfl⟩
              · exact .inr ⟨fun e => hpr u (by rw [← e]; exact h), h⟩
            · rintro (⟨rfl, rfl⟩ | ⟨_, h⟩)
              · exact .inl rfl
              · exact .inr h
      · rw [if_neg hc]
        have hck : lcp k p ≠ k := fun e => hnp (by have := lcp_right k p; rwa [e] at this)
        have hpart := lcp_part hck hc
        obtain ⟨hb1, hl1⟩ := pre_bit (lcp_left k p) hck
        obtain ⟨hb2, hl2⟩ := pre_bit (lcp_right k p) hc
        have hall := keys_pre hW hb1
        have hleaf : (node b1 p (some v) nil nil).WF := ⟨hp, by simp [keys], by simp [keys], by simp, trivial, trivial⟩
        have hall2 : ∀ x ∈ (node b1 p (some v) nil nil).keys, lcp k p ++ [p.getD (lcp k p).length false] <+: x := by
          intro x hx; simp [keys] at hx; rw [hx]; exact hb2
        have hrw : ∀ x u, ((x, u) ∈ (node b k o l r).rows ∨ (x, u) ∈ (node b1 p (some v) nil nil).rows) ↔ x = p ∧ u = v ∨ x ≠ p ∧ (x, u) ∈ (node b k o l r).rows := by
          intro x u
          rw [show (node b1 p (some v) nil nil).rows = [(p, v)] by simp [TT.rows, rowO]]
          constructor
          · rintro (h | h)
            · exact .inr ⟨fun e => hpr u (by rw [← e]; exact h), h⟩
            · simp at h; exact .inl h
          · rintro (⟨rfl, rfl⟩ | ⟨_, h⟩)
            · exact .inr (by simp)
            · exact .inl h
        cases hbit : p.getD (lcp k p).length false with
        | true =>
          rw [hbit] at hpart hall2
          have hkb : k.getD (lcp k p).length false = false := by
            cases h : k.getD (lcp k p).length false
            · rfl
            · rw [h] at hpart; cases hpart
          rw [hkb] at hall
          simp only [if_true]
          refine ⟨⟨by omega, hall, hall2, by simp [isN], hW, hleaf⟩, fun q hq hqp x hx => ?_, fun x u => ?_⟩
          · have hqc := lcp_max (hq k (by simp [keys])) hqp
            rw [keys, List.mem_cons, List.mem_append] at hx
            rcases hx with rfl | hx | hx
            · exact hqc
            · exact hq x hx
            · simp [keys] at hx; rw [hx]; exact hqp
          · rw [show (node b2 (lcp k p) none (node b k o l r) (node b1 p (some v) nil nil)).rows = (node b k o l r).rows ++ (node b1 p (some v) nil nil).rows by rw [TT.rows]; rfl, List.mem_append]
            exact hrw x u
        | false =>
          rw [hbit] at hpart hall2
          have hkb : k.getD (lcp k p).length false = true := by
            cases h : k.getD (lcp k p).length false
            · rw [h] at hpart; cases hpart
            · rfl
          rw [hkb] at hall
          simp only [Bool.false_eq_true, if_false]
          refine ⟨⟨by omega, hall2, hall, by simp [isN], hleaf, hW⟩, fun q hq hqp x hx => ?_, fun x u => ?_⟩
          · have hqc := lcp_max (hq k (by simp [keys])) hqp
            rw [keys, List.mem_cons, List.mem_append] at hx
            rcases hx with rfl | hx | hx
            · exact hqc
            · simp [keys] at hx; rw [hx]; exact hqp
            · exact hq x hx
          · rw [show (node b2 (lcp k p) none (node b1 p (some v) nil nil) (node b k o l r)).rows = (node b1 p (some v) nil nil).rows ++ (node b k o l r).rows by rw [TT.rows]; rfl, List.mem_append, Or.comm]
            exact hrw x u

theorem hang_isN (b1 b2 : Nat) (p : Key) (v : Int) (t : TT) : (hang b1 b2 p v t).isN = false := by
  cases t with
  | nil => rfl
  | node b k o l r => simp only [hang]; repeat' split
                      all_goals rfl
theorem rsub_isN {t : TT} {p : Key} {X : TT} (hX : X.isN = false) : (t.rsub p X).isN = false := by
  cases t with
  | nil => exact hX
  | node b k o l r => simp only [rsub]; repeat' split
                      all_goals first | exact hX | rfl

theorem put_ok {t : TT} (h : t.WF) {p : Key} {v : Int} (hp : p.length ≤ 32) (b1 b2 : Nat) :
    (t.put b1 b2 p v).WF ∧ (∀ q, (∀ x ∈ t.keys, q <+: x) → q <+: p → ∀ x ∈ (t.put b1 b2 p v).keys, q <+: x) ∧ (∀ x u, (x, u) ∈ (t.put b1 b2 p v).rows ↔ x = p ∧ u = v ∨ x ≠ p ∧ (x, u) ∈ t.rows) := by
  unfold put
  induction t with
  | nil => exact hang_ok h hp b1 b2 (fun _ _ _ _ _ e => by cases e)
  | node b k o l r il ir =>
    have hW := h
    obtain ⟨h1, h2, h3, h4, h5, h6⟩ := h
    simp only [spot, rsub]
    by_cases hk : k <+: p
    · simp only [if_pos hk]
      by_cases hl : k.length = p.length
      · simp only [if_pos hl]
        have e := (pre_len hk).1 hl
        exact hang_ok hW hp b1 b2 (fun _ _ _ _ _ e2 => by cases e2; exact .inl e)
      · simp only [if_neg hl]
        have hne : k ≠ p := fun e => hl (by rw [e])
        have hb := (pre_bit hk hne).1
        cases hbit : p.getD k.length false with
        | true =>
          rw [hbit] at hb
          simp only [if_true]
          obtain ⟨i1, i2, i3⟩ := ir h6
          refine ⟨⟨h1, h2, i2 _ h3 hb, fun e => ⟨(h4 e).1, rsub_isN (hang_isN ..)⟩, h5, i1⟩, fun q hq hqp x hx => ?_, fun x u => ?_⟩
          · rw [keys, List.mem_cons, List.mem_append] at hx
            rcases hx with rfl | hx | hx
            · exact hq _ (by simp [keys])
            · exact hq _ (by simp [keys, hx])
            · exact i2 q (fun y hy => hq y (by simp [keys, hy])) hqp x hx
          · have nl : ∀ u, (p, u) ∉ l.rows := fun u hm => pre_bits_ne (h2 _ (rows_keys hm)) hb (List.prefix_refl _)
            rw [TT.rows, TT.rows, List.mem_append, List.mem_append, List.mem_append, List.mem_append, i3, rowO_mem]
            constructor
            · rintro (⟨rfl, e⟩ | h | h | ⟨h, h'⟩)
              · exact .inr ⟨hne, .inl ⟨rfl, e⟩⟩
              · exact .inr ⟨fun e => nl u (by rw [← e]; exact h), .inr (.inl h)⟩
              · exact .inl h
              · exact .inr ⟨h, .inr (.inr h')⟩
            · rintro (h | ⟨h, h' | h' | h'⟩)
              · exact .inr (.inr (.inl h))
              · exact .inl h'
              · exact .inr (.inl h')
              · exact .inr (.inr (.inr ⟨h, h'⟩))
        | false =>
          rw [hbit] at hb
          simp only [Bool.false_eq_true, if_false]
          obtain ⟨i1, i2, i3⟩ := il h5
          refine ⟨⟨h1, i2 _ h2 hb, h3, fun e => ⟨rsub_isN (hang_isN ..), (h4 e).2⟩, i1, h6⟩, fun q hq hqp x hx => ?_, fun x u => ?_⟩
          · rw [keys, List.mem_cons, List.mem_append] at hx
            rcases hx with rfl | hx | hx
            · exact hq _ (by simp [keys])
            · exact i2 q (fun y hy => hq y (by simp [keys, hy])) hqp x hx
            · exact hq _ (by simp [keys, hx])
          · have nr : ∀ u, (p, u) ∉ r.rows := fun u hm => pre_bits_ne (h3 _ (rows_keys hm)) hb (List.prefix_refl _)
            rw [TT.rows, TT.rows, List.mem_append, List.mem_append, List.mem_append, List.mem_append, i3, rowO_mem]
            constructor
            · rintro (⟨rfl, e⟩ | (h | ⟨h, h'⟩) | h)
              · exact .inr ⟨hne, .inl ⟨rfl, e⟩⟩
              · exact .inl h
              · exact .inr ⟨h, .inr (.inl h')⟩
              · exact .inr ⟨fun e => nr u (by rw [← e]; exact h), .inr (.inr h)⟩
            · rintro (h | ⟨h, h' | h' | h'⟩)
              · exact .inr (.inl (.inl h))
              · exact .inl h'
              · exact .inr (.inl (.inr ⟨h, h'⟩))
              · exact .inr (.inr h')
    · simp only [if_neg hk]
      exact hang_ok hW hp b1 b2 (fun _ _ _ _ _ e2 => by cases e2; exact .inr hk)

/-- what stays where a node stands -/
def kept : TT → TT
  | nil => nil
  | node b k (some v) l r => node b k (some v) l r
  | node b k none l r => if l.isN then r else if r.isN then l else node b k none l r
/-- the way is tidied, but for its first d places -/
def tidyN : TT → Key → Nat → TT
  | nil, _, _ => nil
  | node b k o l r, p, d => if k <+: p then (if k.length = p.length then (if d = 0 then kept (node b k o l r) else node b k o l r)
      else if p.getD k.length false then (if d = 0 then kept (node b k o l (r.tidyN p 0)) else node b k o l (r.tidyN p (d - 1))) else (if d = 0 then kept (node b k o (l.tidyN p 0) r) else node b k o (l.tidyN p (d - 1)) r)) else node b k o l r
/-- p loses its value -/
def clear : TT → Key → TT
  | nil, _ => nil
  | node b k o l r, p => if k <+: p then (if k.length = p.length then node b k none l r else if p.getD k.length false then node b k o l (r.clear p) else node b k o (l.clear p) r) else node b k o l r
def take (t : TT) (p : Key) : TT := (t.clear p).tidyN p 0

theorem kept_ok {b : Nat} {k : Key} {o : Option Int} {l r : TT} (h1 : k.length ≤ 32) (h2 : ∀ x ∈ l.keys, k ++ [false] <+: x) (h3 : ∀ x ∈ r.keys, k ++ [true] <+: x) (h5 : l.WF) (h6 : r.WF) :
    (kept (node b k o l r)).WF ∧ (∀ x ∈ (kept (node b k o l r)).keys, x ∈ (node b k o l r).keys) ∧ (kept (node b k o l r)).rows = (node b k o l r).rows := by
  cases o with
  | some v => exact ⟨⟨h1, h2, h3, by simp, h5, h6⟩, fun x hx => hx, Eq.refl (node b k (some v) l r).rows⟩
  | none =>
    simp only [kept]
    cases hl : l.isN with
    | true =>
      rw [isN_iff] at hl
      subst hl
      simp only [if_true]
      exact ⟨h6, fun x hx => by simp [keys, hx], by simp [TT.rows, rowO]⟩
    | false =>
      cases hr : r.isN with
      | true =>
        rw [isN_iff] at hr
        subst hr
        simp only [Bool.false_eq_true, if_false, if_true]
        exact ⟨h5, fun x hx => by simp [keys, hx], by simp [TT.rows, rowO]⟩
      | false =>
        simp only [Bool.false_eq_true, if_false]
        exact ⟨⟨h1, h2, h3, fun _ => ⟨hl, hr⟩, h5, h6⟩, fun x hx => hx, trivial⟩
theorem take_ok {t : TT} (h : t.WF) (p : Key) :
    (t.take p).WF ∧ (∀ x ∈ (t.take p).keys, x ∈ t.keys) ∧ (∀ x u, (x, u) ∈ (t.take p).rows ↔ x ≠ p ∧ (x, u) ∈ t.rows) := by
  unfold take
  induction t with
  | nil => exact ⟨trivial, fun _ h => h, fun x u => by simp [clear, tidyN, TT.rows]⟩
  | node b k o l r il ir =>
    have hW := h
    obtain ⟨h1, h2, h3, h4, h5, h6⟩ := h
    simp only [clear]
    by_cases hk : k <+: p
    · simp only [if_pos hk]
      by_cases hl : k.length = p.length
      · simp only [if_pos hl, tidyN, if_pos hk]
        have e := (pre_len hk).1 hl
        subst e
        simp only [if_true]
        obtain ⟨k1, k2, k3⟩ := kept_ok (b := b) (o := none) h1 h2 h3 h5 h6
        refine ⟨k1, fun x hx => k2 x hx, fun x u => ?_⟩
        rw [k3]
        have a1 : (k, u) ∉ l.rows := fun hm => not_pre_short (h2 _ (rows_keys hm)) (List.prefix_refl _)
        have a2 : (k, u) ∉ r.rows := fun hm => not_pre_short (h3 _ (rows_keys hm)) (List.prefix_refl _)
        simp only [TT.rows, List.mem_append, rowO_mem]
        constructor
        · rintro (⟨_, e⟩ | h)
          · cases e
          · refine ⟨?_, .inr h⟩
            rintro rfl
            rcases h with h | h
            · exact a1 h
            · exact a2 h
        · rintro ⟨hx, ⟨e, _⟩ | h⟩
          · exact absurd e hx
          · exact .inr h
      · simp only [if_neg hl]
        have hne : k ≠ p := fun e => hl (by rw [e])
        have hb := (pre_bit hk hne).1
        cases hbit : p.getD k.length false with
        | true =>
          rw [hbit] at hb
          simp only [if_true, tidyN, if_pos hk, if_neg hl, hbit]
          obtain ⟨i1, i2, i3⟩ := ir h6
          obtain ⟨k1, k2, k3⟩ := kept_ok (b := b) (o := o) h1 h2 (fun x hx => h3 x (i2 x hx)) h5 i1
          refine ⟨k1, fun x hx => ?_, fun x u => ?_⟩
          · have := k2 x hx
            rw [keys, List.mem_cons, List.mem_append] at this ⊢
            rcases this with h | h | h
            · exact .inl h
            · exact .inr (.inl h)
            · exact .inr (.inr (i2 x h))
          · rw [k3]
            have nl : ∀ u, (p, u) ∉ l.rows := fun u hm => pre_bits_ne (h2 _ (rows_keys hm)) hb (List.prefix_refl _)
            rw [TT.rows, TT.rows, List.mem_append, List.mem_append, List.mem_append, List.mem_append, i3, rowO_mem]
            constructor
            · rintro (⟨rfl, e⟩ | h | ⟨h, h'⟩)
              · exact ⟨hne, .inl ⟨rfl, e⟩⟩
              · exact ⟨fun e => nl u (by rw [← e]; exact h), .inr (.inl h)⟩
              · exact ⟨h, .inr (.inr h')⟩
            · rintro ⟨h, h' | h' | h'⟩
              · exact .inl h'
              · exact .inr (.inl h')
              · exact .inr (.inr ⟨h, h'⟩)
        | false =>
          rw [hbit] at hb
          simp only [Bool.false_eq_true, if_false, tidyN, if_pos hk, if_neg hl, hbit, if_true]
          obtain ⟨i1, i2, i3⟩ := il h5
          obtain ⟨k1, k2, k3⟩ := kept_ok (b := b) (o := o) h1 (fun x hx => h2 x (i2 x hx)) h3 i1 h6
          refine ⟨k1, fun x hx => ?_, fun x u => ?_⟩
          · have := k2 x hx
            rw [keys, List.mem_cons, List.mem_append] at this ⊢
            rcases this with h | h | h
            · exact .inl h
            · exact .inr (.inl (i2 x h))
            · exact .inr (.inr h)
          · rw [k3]
            have nr : ∀ u, (p, u) ∉ r.rows := fun u hm => pre_bits_ne (h3 _ (rows_keys hm)) hb (List.prefix_refl _)
            rw [TT.rows, TT.rows, List.mem_append, List.mem_append, List.mem_append, List.mem_append, i3, rowO_mem]
            constructor
            · rintro (⟨rfl, e⟩ | ⟨h, h'⟩ | h)
              · exact ⟨hne, .inl ⟨rfl, e⟩⟩
              · exact ⟨h, .inr (.inl h')⟩
              · exact ⟨fun e => nr u (by rw [← e]; exact h), .inr (.inr h)⟩
            · rintro ⟨h, h' | h' | h'⟩
              · exact .inl h'
              · exact .inr (.inl ⟨h, h'⟩)
              · exact .inr (.inr h')
    · simp only [if_neg hk, tidyN]
      refine ⟨hW, fun x hx => hx, fun x u => ⟨fun hm => ⟨?_, hm⟩, fun hm => hm.2⟩⟩
      rintro rfl
      exact hk (keys_pre hW (List.prefix_refl k) _ (rows_keys hm))

/-- how many nodes there may be -/
theorem sz_le {t : TT} (h : t.WF) : t.sz ≤ 2 * t.rows.length - 1 ∧ t.rows.length ≤ t.sz ∧ (t.rows.length = 0 → t.sz = 0) := by
  induction t with
  | nil => simp [sz, TT.rows]
  | node b k o l r il ir =>
    obtain ⟨h1, h2, h3, h4, h5, h6⟩ := h
    have a := il h5
    have c := ir h6
    simp only [sz, TT.rows, List.length_append]
    cases o with
    | some v => simp only [rowO, List.length_singleton]; omega
    | none =>
      simp only [rowO, List.length_nil]
      have hl := (h4 rfl).1
      have hr := (h4 rfl).2
      have s1 : 1 ≤ l.sz := by cases l <;> simp [isN, sz] at hl ⊢
      have s2 : 1 ≤ r.sz := by cases r <;> simp [isN, sz] at hr ⊢
      omega
theorem dp_le {t : TT} (h : t.WF) {q : Key} (hq : ∀ x ∈ t.keys, q <+: x) (hl : q.length ≤ 33) : t.dp + q.length ≤ 33 := by
  induction t generalizing q with
  | nil => simp [dp]; exact hl
  | node b k o l r il ir =>
    obtain ⟨h1, h2, h3, h4, h5, h6⟩ := h
    have := (hq k (by simp [keys])).length_le
    have a := il h5 h2 (by simp; omega)
    have c := ir h6 h3 (by simp; omega)
    simp only [dp, List.length_append, List.length_singleton] at *
    omega
theorem dp_zero {t : TT} : t.dp = 0 ↔ t.sz = 0 := by cases t <;> simp [dp, sz]

/-- the nodes are what each two of the prefixes have in common -/
theorem keys_lcp {t : TT} (h : t.WF) (x : Key) : x ∈ t.keys ↔ ∃ y u z v, (y, u) ∈ t.rows ∧ (z, v) ∈ t.rows ∧ x = lcp y z := by
  induction t with
  | nil => simp [keys, TT.rows]
  | node b k o l r il ir =>
    obtain ⟨h1, h2, h3, h4, h5, h6⟩ := h
    constructor
    · intro hx
      rw [keys, List.mem_cons, List.mem_append] at hx
      rcases hx with rfl | hx | hx
      · cases o with
        | some v => exact ⟨x, v, x, v, by simp [TT.rows, rowO], by simp [TT.rows, rowO], (lcp_self x).symm⟩
        | none =>
          obtain ⟨y, u, hy⟩ := isN_rows h5 (h4 rfl).1
          obtain ⟨z, v, hz⟩ := isN_rows h6 (h4 rfl).2
          exact ⟨y, u, z, v, by simp [TT.rows, hy], by simp [TT.rows, hz], (lcp_split (h2 _ (rows_keys hy)) (h3 _ (rows_keys hz))).symm⟩
      · obtain ⟨y, u, z, v, hy, hz, e⟩ := (il h5).1 hx
        exact ⟨y, u, z, v, by simp [TT.rows, hy], by simp [TT.rows, hz], e⟩
      · obtain ⟨y, u, z, v, hy, hz, e⟩ := (ir h6).1 hx
        exact ⟨y, u, z, v, by simp [TT.rows, hy], by simp [TT.rows, hz], e⟩
    · rintro ⟨y, u, z, v, hy, hz, rfl⟩
      rw [TT.rows, List.mem_append, List.mem_append, rowO_mem] at hy hz
      rw [keys, List.mem_cons, List.mem_append]
      have pl : ∀ y u, (y, u) ∈ l.rows → k <+: y := fun y u h => (List.prefix_append _ _).trans (h2 _ (rows_keys h))
      have pr : ∀ y u, (y, u) ∈ r.rows → k <+: y := fun y u h => (List.prefix_append _ _).trans (h3 _ (rows_keys h))
      rcases hy with ⟨rfl, _⟩ | hy | hy
      · left
        rcases hz with ⟨rfl, _⟩ | hz | hz
        · exact lcp_self _
        · exact lcp_of_pre (pl _ _ hz)
        · exact lcp_of_pre (pr _ _ hz)
      · rcases hz with ⟨rfl, _⟩ | hz | hz
        · left; rw [lcp_comm]; exact lcp_of_pre (pl _ _ hy)
        · exact .inr (.inl ((il h5).2 ⟨y, u, z, v, hy, hz, rfl⟩))
        · left; exact lcp_split (h2 _ (rows_keys hy)) (h3 _ (rows_keys hz))
      · rcases hz with ⟨rfl, _⟩ | hz | hz
        · left; rw [lcp_comm]; exact lcp_of_pre (pr _ _ hy)
        · left; rw [lcp_comm]; exact lcp_split (h2 _ (rows_keys hz)) (h3 _ (rows_keys hy))
        · exact .inr (.inr ((ir h6).2 ⟨y, u, z, v, hy, hz, rfl⟩))

/-- the depth is the most nodes around one -/
def anc (t : TT) (x : Key) : Nat := (t.keys.filter fun y => decide (y <+: x)).length
theorem anc_le {t : TT} (h : t.WF) {x : Key} (hx : x ∈ t.keys) : t.anc x ≤ t.dp := by
  induction t with
  | nil => simp [keys] at hx
  | node b k o l r il ir =>
    obtain ⟨h1, h2, h3, h4, h5, h6⟩ := h
    unfold anc
    simp only [keys, List.filter_cons, List.filter_append, dp]
    rw [keys, List.mem_cons, List.mem_append] at hx
    rcases hx with rfl | hx | hx
    · have e1 : l.keys.filter (fun y => decide (y <+: x)) = [] := by
        rw [List.filter_eq_nil_iff]; intro y hy; simpa using not_pre_short (h2 y hy)
      have e2 : r.keys.filter (fun y => decide (y <+: x)) = [] := by
        rw [List.filter_eq_nil_iff]; intro y hy; simpa using not_pre_short (h3 y hy)
      rw [e1, e2]
      simp
    · have e2 : r.keys.filter (fun y => decide (y <+: x)) = [] := by
        rw [List.filter_eq_nil_iff]; intro y hy; simpa using pre_bits_ne (h3 y hy) (h2 x hx)
      have := il h5 hx
      unfold anc at this
      rw [e2]
      split <;> simp <;> omega
    · have e2 : l.keys.filter (fun y => decide (y <+: x)) = [] := by
        rw [List.filter_eq_nil_iff]; intro y hy; simpa using pre_bits_ne (h2 y hy) (h3 x hx)
      have := ir h6 hx
      unfold anc at this
      rw [e2]
      split <;> simp <;> omega
theorem anc_ex {t : TT} (h : t.WF) (hn : t.isN = false) : ∃ x ∈ t.keys, t.anc x = t.dp := by
  induction t with
  | nil => simp [isN] at hn
  | node b k o l r il ir =>
    obtain ⟨h1, h2, h3, h4, h5, h6⟩ := h
    have step : ∀ x, k <+: x → (node b k o l r).anc x = (l.keys.filter fun y => decide (y <+: x)).length + (r.keys.filter fun y => decide (y <+: x)).length + 1 := by
      intro x hx
      unfold anc
      simp [keys, List.filter_append, hx]
    rcases Nat.lt_or_ge l.dp r.dp with hlt | hge
    · have hr : r.isN = false := by cases r <;> simp [isN, dp] at hlt ⊢
      obtain ⟨x, hx, e⟩ := ir h6 hr
      refine ⟨x, by simp [keys, hx], ?_⟩
      rw [step x ((List.prefix_append _ _).trans (h3 x hx))]
      have e2 : l.keys.filter (fun y => decide (y <+: x)) = [] := by
        rw [List.filter_eq_nil_iff]; intro y hy; simpa using pre_bits_ne (h2 y hy) (h3 x hx)
      unfold anc at e
      simp only [e2, e, dp, List.length_nil]
      omega
    · cases hl : l.isN with
      | true =>
        rw [isN_iff] at hl
        subst hl
        have hr : r = nil := by
          cases r with
          | nil => rfl
          | node _ _ _ _ _ => simp [dp] at hge
        subst hr
        exact ⟨k, by simp [keys], by rw [step k (List.prefix_refl k)]; simp [keys, dp]⟩
      | false =>
        obtain ⟨x, hx, e⟩ := il h5 hl
        refine ⟨x, by simp [keys, hx], ?_⟩
        rw [step x ((List.prefix_append _ _).trans (h2 x hx))]
        have e2 : r.keys.filter (fun y => decide (y <+: x)) = [] := by
          rw [List.filter_eq_nil_iff]; intro y hy; simpa using pre_bits_ne (h3 y hy) (h2 x hx)
        unfold anc at e
        simp only [e2, e, dp, List.length_nil]
        omega
end TT
end Go.Proofs.YtbacahoihkpkpaaDoor
