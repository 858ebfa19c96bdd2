/- Merged: Q1 Q2 Q4. -/
/- Plain: prefixes as lists of bits, their addresses, their order, what two have in common. No program in sight. -/
namespace Go.Proofs.YtbacahoihkpkpaaDoor

abbrev Key := List Bool

/-- the number that bits make, of m bits -/
def adr : Nat → Key → Nat
  | 0, _ => 0
  | _ + 1, [] => 0
  | m + 1, b :: k => (if b then 2 ^ m else 0) + adr m k

theorem adr_nil (m : Nat) : adr m [] = 0 := by cases m <;> rfl
theorem adr_lt (m : Nat) (k : Key) : adr m k < 2 ^ m := by
  induction m generalizing k with
  | zero => simp [adr]
  | succ m ih =>
    cases k with
    | nil => simp [adr]; exact Nat.pos_of_ne_zero (by simp)
    | cons b k =>
      have := ih k
      have e : 2 ^ (m + 1) = 2 ^ m + 2 ^ m := by rw [Nat.pow_succ]; omega
      simp only [adr]
      split <;> omega
theorem adr_append (m : Nat) (x y : Key) (h : x.length ≤ m) : adr m (x ++ y) = adr m x + adr (m - x.length) y := by
  induction m generalizing x with
  | zero =>
    have : x = [] := List.eq_nil_of_length_eq_zero (by omega)
    subst this; simp [adr]
  | succ m ih =>
    cases x with
    | nil => simp [adr]
    | cons b x =>
      simp only [List.cons_append, adr, List.length_cons] at *
      rw [ih x (by omega), show m + 1 - (x.length + 1) = m - x.length by omega]
      omega
theorem adr_inj (m : Nat) (x y : Key) (hx : x.length ≤ m) (hl : x.length = y.length) (h : adr m x = adr m y) : x = y := by
  induction m generalizing x y with
  | zero =>
    have h1 : x = [] := List.eq_nil_of_length_eq_zero (by omega)
    subst h1
    exact (List.eq_nil_of_length_eq_zero (by simp at hl; omega)).symm
  | succ m ih =>
    cases x with
    | nil => exact (List.eq_nil_of_length_eq_zero (by simp at hl; omega)).symm
    | cons b x =>
      cases y with
      | nil => simp at hl
      | cons c y =>
        simp only [adr, List.length_cons] at *
        have h1 := adr_lt m x
        have h2 := adr_lt m y
        have hb : b = c := by
          cases b <;> cases c <;> first | rfl | (simp at h; omega)
        subst hb
        rw [ih x y (by omega) (by omega) (by omega)]
theorem adr_bit (m : Nat) (k : Key) (i : Nat) : (adr m k).testBit i = (decide (i < m) && k.getD (m - 1 - i) false) := by
  induction m generalizing k with
  | zero => simp [adr]
  | succ m ih =>
    cases k with
    | nil => simp [adr]
    | cons b k =>
      have hlt := adr_lt m k
      have e : adr (m + 1) (b :: k) = 2 ^ m * (if b then 1 else 0) + adr m k := by simp only [adr]; split <;> simp
      rw [e, Nat.testBit_two_pow_mul_add _ hlt, ih]
      by_cases h1 : i < m
      · rw [if_pos h1, show m + 1 - 1 - i = (m - 1 - i) + 1 by omega]
        simp [h1, show i < m + 1 by omega]
      · rw [if_neg h1]
        by_cases h2 : i = m
        · subst h2
          cases b <;> simp
        · have h3 : ¬ i < m + 1 := by omega
          have h4 : i - m ≠ 0 := by omega
          simp only [h3, decide_false, Bool.false_and]
          have h5 : Nat.testBit 1 (i - m) = false := Nat.testBit_lt_two_pow (Nat.one_lt_two_pow h4)
          cases b
          · simp
          · simpa using h5

/-- the order of prefixes -/
def klt (x y : Key) : Prop := adr 32 x < adr 32 y ∨ adr 32 x = adr 32 y ∧ x.length < y.length
instance (x y : Key) : Decidable (klt x y) := inferInstanceAs (Decidable (_ ∨ _))
theorem klt_irrefl (x : Key) : ¬ klt x x := by unfold klt; omega
theorem klt_trans {x y z : Key} (h : klt x y) (k : klt y z) : klt x z := by unfold klt at *; omega
theorem klt_asymm {x y : Key} (h : klt x y) : ¬ klt y x := by unfold klt at *; omega
theorem klt_tri {x y : Key} (hx : x.length ≤ 32) (h1 : ¬ klt x y) (h2 : ¬ klt y x) : x = y := by
  unfold klt at *
  exact adr_inj 32 x y hx (by omega) (by omega)
theorem klt_pre {x y : Key} (hy : y.length ≤ 32) (h : x <+: y) (hne : x ≠ y) : klt x y := by
  obtain ⟨t, rfl⟩ := h
  simp only [List.length_append] at hy
  have ht : t.length ≠ 0 := fun e => hne (by rw [List.eq_nil_of_length_eq_zero e]; simp)
  unfold klt
  rw [adr_append 32 x t (by omega), List.length_append]
  omega
theorem klt_bits {k x y : Key} (hk : k.length < 32) (hx : k ++ [false] <+: x) (hy : k ++ [true] <+: y) : klt x y := by
  obtain ⟨s, rfl⟩ := hx
  obtain ⟨t, rfl⟩ := hy
  unfold klt
  left
  rw [List.append_assoc, List.append_assoc, adr_append 32 k _ (by omega), adr_append 32 k _ (by omega)]
  obtain ⟨m, hm⟩ : ∃ m, 32 - k.length = m + 1 := ⟨31 - k.length, by omega⟩
  rw [hm]
  have := adr_lt m s
  simp only [List.singleton_append, adr]
  simp
  omega

/-- what two have in common -/
def lcp : Key → Key → Key
  | a :: x, b :: y => if a = b then a :: lcp x y else []
  | _, _ => []
theorem lcp_nil_r (x : Key) : lcp x [] = [] := by cases x <;> rfl
theorem lcp_left (x y : Key) : lcp x y <+: x := by
  induction x generalizing y with
  | nil => simp [lcp]
  | cons a x ih =>
    cases y with
    | nil => simp [lcp]
    | cons b y =>
      simp only [lcp]
      split
      · rw [List.prefix_cons_inj]; exact ih y
      · exact List.nil_prefix
theorem lcp_comm (x y : Key) : lcp x y = lcp y x := by
  induction x generalizing y with
  | nil => cases y <;> rfl
  | cons a x ih =>
    cases y with
    | nil => rfl
    | cons b y =>
      simp only [lcp, ih y]
      by_cases h : a = b
      · subst h; rfl
      · rw [if_neg h, if_neg (fun e => h e.symm)]
theorem lcp_right (x y : Key) : lcp x y <+: y := by rw [lcp_comm]; exact lcp_left y x
theorem lcp_of_pre {x y : Key} (h : x <+: y) : lcp x y = x := by
  induction x generalizing y with
  | nil => cases y <;> rfl
  | cons a x ih =>
    cases y with
    | nil => simp at h
    | cons b y =>
      rw [List.cons_prefix_cons] at h
      obtain ⟨rfl, h⟩ := h
      simp only [lcp, if_true, ih h]
theorem lcp_self (x : Key) : lcp x x = x := lcp_of_pre (List.prefix_refl x)
theorem lcp_max {q x y : Key} (h1 : q <+: x) (h2 : q <+: y) : q <+: lcp x y := by
  induction q generalizing x y with
  | nil => exact List.nil_prefix
  | cons a q ih =>
    cases x with
    | nil => simp at h1
    | cons b x =>
      cases y with
      | nil => simp at h2
      | cons c y =>
        rw [List.cons_prefix_cons] at h1 h2
        obtain ⟨rfl, h1⟩ := h1
        obtain ⟨rfl, h2⟩ := h2
        simp only [lcp, if_true]
        rw [List.prefix_cons_inj]
        exact ih h1 h2
theorem lcp_split {k x y : Key} (hx : k ++ [false] <+: x) (hy : k ++ [true] <+: y) : lcp x y = k := by
  obtain ⟨s, rfl⟩ := hx
  obtain ⟨t, rfl⟩ := hy
  rw [List.append_assoc, List.append_assoc]
  induction k with
  | nil => simp [lcp]
  | cons a k ih =>
    show (if a = a then a :: lcp (k ++ ([false] ++ s)) (k ++ ([true] ++ t)) else []) = _
    rw [if_pos rfl, ih]

/-- the bit behind a prefix of another one -/
theorem pre_bit {k p : Key} (h : k <+: p) (hne : k ≠ p) : k ++ [p.getD k.length false] <+: p ∧ k.length < p.length := by
  obtain ⟨t, rfl⟩ := h
  cases t with
  | nil => simp at hne
  | cons b t =>
    refine ⟨⟨t, by simp⟩, by simp⟩
/-- two that part: the bits behind what they have in common -/
theorem lcp_part {k p : Key} (h1 : lcp k p ≠ k) (h2 : lcp k p ≠ p) : p.getD (lcp k p).length false = !(k.getD (lcp k p).length false) := by
  induction k generalizing p with
  | nil => simp [lcp] at h1
  | cons a k ih =>
    cases p with
    | nil => simp [lcp] at h2
    | cons b p =>
      by_cases hab : a = b
      · subst hab
        simp only [lcp, if_true] at h1 h2 ⊢
        have := ih (p := p) (fun e => h1 (by rw [e])) (fun e => h2 (by rw [e]))
        simpa using this
      · simp only [lcp, if_neg hab]
        cases a <;> cases b <;> simp at hab ⊢
theorem pre_bits_ne {k p x : Key} {b : Bool} (hx : k ++ [b] <+: x) (hp : k ++ [!b] <+: p) : ¬ x <+: p := by
  intro h
  have h1 := hx.trans h
  have h2 := List.prefix_of_prefix_length_le h1 hp (by simp)
  have h3 := h2.eq_of_length (by simp)
  have h4 := List.append_cancel_left h3
  cases b <;> simp at h4
theorem not_pre_short {k x : Key} {b : Bool} (hx : k ++ [b] <+: x) : ¬ x <+: k := by
  intro h
  have := (hx.trans h).length_le
  simp at this
  omega
end Go.Proofs.YtbacahoihkpkpaaDoor
/- Plain: trees over keys; put, take, what is found. No program in sight. -/
namespace Go.Proofs.YtbacahoihkpkpaaDoor

/-- a trie's nodes, each with the block in which it lies -/
inductive TT where
  | nil
  | node (b : Nat) (k : Key) (o : Option Int) (l r : TT)

namespace TT
def sz : TT → Nat
  | nil => 0
  | node _ _ _ l r => l.sz + r.sz + 1
def dp : TT → Nat
  | nil => 0
  | node _ _ _ l r => max l.dp r.dp + 1
def keys : TT → List Key
  | nil => []
  | node _ k _ l r => k :: (l.keys ++ r.keys)
def rowO (k : Key) : Option Int → List (Key × Int)
  | some v => [(k, v)]
  | none => []
def rows : TT → List (Key × Int)
  | nil => []
  | node _ k o l r => rowO k o ++ (l.rows ++ r.rows)
def blocks : TT → List Nat
  | nil => []
  | node b _ _ l r => b :: (l.blocks ++ r.blocks)
def isN : TT → Bool
  | nil => true
  | node .. => false
/-- the nodes stand as they should -/
def WF : TT → Prop
  | nil => True
  | node _ k o l r => k.length ≤ 32 ∧ (∀ x ∈ l.keys, k ++ [false] <+: x) ∧ (∀ x ∈ r.keys, k ++ [true] <+: x) ∧ (o = none → l.isN = false ∧ r.isN = false) ∧ l.WF ∧ r.WF

theorem isN_iff {t : TT} : t.isN = true ↔ t = nil := by cases t <;> simp [isN]
theorem keys_len {t : TT} : t.keys.length = t.sz := by
  induction t with
  | nil => rfl
  | node b k o l r il ir => simp [keys, sz, il, ir]
theorem rows_keys {t : TT} {x : Key} {v : Int} (h : (x, v) ∈ t.rows) : x ∈ t.keys := by
  induction t with
  | nil => simp [rows] at h
  | node b k o l r il ir =>
    simp only [rows, List.mem_append] at h
    simp only [keys, List.mem_cons, List.mem_append]
    rcases h with h | h | h
    · cases o <;> simp [rowO] at h
      exact .inl h.1
    · exact .inr (.inl (il h))
    · exact .inr (.inr (ir h))
theorem WF.len {t : TT} (h : t.WF) {x : Key} (hx : x ∈ t.keys) : x.length ≤ 32 := by
  induction t with
  | nil => simp [keys] at hx
  | node b k o l r il ir =>
    obtain ⟨h1, _, _, _, h5, h6⟩ := h
    simp only [keys, List.mem_cons, List.mem_append] at hx
    rcases hx with rfl | hx | hx
    · exact h1
    · exact il h5 hx
    · exact ir h6 hx
/-- the keys stand in order -/
theorem WF.ord {t : TT} (h : t.WF) : t.keys.Pairwise klt := by
  induction t with
  | nil => exact List.Pairwise.nil
  | node b k o l r il ir =>
    obtain ⟨h1, h2, h3, h4, h5, h6⟩ := h
    simp only [keys, List.pairwise_cons, List.pairwise_append, List.mem_append]
    refine ⟨fun x hx => ?_, il h5, ir h6, fun x hx y hy => ?_⟩
    · rcases hx with hx | hx
      · have := h2 x hx
        refine klt_pre (h5.len hx) ((List.prefix_append _ _).trans this) ?_
        rintro rfl
        have := this.length_le
        simp at this
        omega
      · have := h3 x hx
        refine klt_pre (h6.len hx) ((List.prefix_append _ _).trans this) ?_
        rintro rfl
        have := this.length_le
        simp at this
        omega
    · have := (h2 x hx).length_le
      have h32 := h5.len hx
      simp at this
      exact klt_bits (by omega) (h2 x hx) (h3 y hy)
theorem rows_sub {t : TT} : (t.rows.map (·.1)).Sublist t.keys := by
  induction t with
  | nil => exact List.Sublist.slnil
  | node b k o l r il ir =>
    simp only [rows, keys, List.map_append]
    cases o with
    | none => exact (il.append ir).cons _
    | some v => exact (il.append ir).cons_cons _
/-- rows in order -/
def OrdR (L : List (Key × Int)) : Prop := L.Pairwise fun x y => klt x.1 y.1
theorem WF.rows {t : TT} (h : t.WF) : OrdR t.rows := by
  have := h.ord.sublist t.rows_sub
  rwa [List.pairwise_map] at this
theorem isN_rows {t : TT} (h : t.WF) (hn : t.isN = false) : ∃ x v, (x, v) ∈ t.rows := by
  induction t with
  | nil => simp [isN] at hn
  | node b k o l r il ir =>
    obtain ⟨_, _, _, h4, h5, _⟩ := h
    cases o with
    | some v => exact ⟨k, v, by simp [TT.rows, rowO]⟩
    | none =>
      obtain ⟨x, v, hx⟩ := il h5 (h4 rfl).1
      exact ⟨x, v, by simp [TT.rows, hx]⟩
end TT

/-- two lists in order with the same members are the same -/
theorem ord_ext {α : Type} {R : α → α → Prop} (hi : ∀ a, ¬ R a a) (ha : ∀ a b, R a b → ¬ R b a) {L M : List α} (h1 : L.Pairwise R) (h2 : M.Pairwise R) (h : ∀ x, x ∈ L ↔ x ∈ M) : L = M := by
  induction L generalizing M with
  | nil =>
    cases M with
    | nil => rfl
    | cons y M => exact absurd ((h y).2 (List.mem_cons_self ..)) (by simp)
  | cons x L ih =>
    cases M with
    | nil => exact absurd ((h x).1 (List.mem_cons_self ..)) (by simp)
    | cons y M =>
      rw [List.pairwise_cons] at h1 h2
      have e : x = y := by
        rcases List.mem_cons.1 ((h x).1 (List.mem_cons_self ..)) with e | e
        · exact e
        · rcases List.mem_cons.1 ((h y).2 (List.mem_cons_self ..)) with e2 | e2
          · exact e2.symm
          · exact absurd (h1.1 _ e2) (ha _ _ (h2.1 _ e))
      subst e
      congr 1
      refine ih h1.2 h2.2 fun z => ⟨fun hz => ?_, fun hz => ?_⟩
      · rcases List.mem_cons.1 ((h z).1 (List.mem_cons_of_mem _ hz)) with e | e
        · subst e; exact absurd (h1.1 _ hz) (hi _)
        · exact e
      · rcases List.mem_cons.1 ((h z).2 (List.mem_cons_of_mem _ hz)) with e | e
        · subst e; exact absurd (h2.1 _ hz) (hi _)
        · exact e
theorem ordR_ext {L M : List (Key × Int)} (h1 : TT.OrdR L) (h2 : TT.OrdR M) (h : ∀ x, x ∈ L ↔ x ∈ M) : L = M :=
  ord_ext (R := fun (x y : Key × Int) => klt x.1 y.1) (fun _ => klt_irrefl _) (fun _ _ => klt_asymm) h1 h2 h

namespace TT
/-- the value of a key, as the way down finds it -/
def get : TT → Key → Option Int
  | nil, _ => none
  | node _ k o l r, p => if k <+: p then (if k.length = p.length then o else if p.getD k.length false then r.get p else l.get p) else none
theorem rowO_mem {k x : Key} {o : Option Int} {v : Int} : (x, v) ∈ rowO k o ↔ x = k ∧ o = some v := by
  cases o with
  | none => simp [rowO]
  | some u => simp [rowO, eq_comm]
theorem pre_len {k p : Key} (h : k <+: p) : k.length = p.length ↔ k = p := ⟨fun e => h.eq_of_length e, fun e => by rw [e]⟩
theorem get_iff {t : TT} (h : t.WF) (p : Key) (v : Int) : t.get p = some v ↔ (p, v) ∈ t.rows := by
  induction t with
  | nil => simp [get, TT.rows]
  | node b k o l r il ir =>
    obtain ⟨h1, h2, h3, h4, h5, h6⟩ := h
    simp only [get, TT.rows, List.mem_append, rowO_mem]
    have nl : k ++ [true] <+: p → (p, v) ∉ l.rows := fun hp hm => pre_bits_ne (h2 _ (rows_keys hm)) hp (List.prefix_refl _)
    have nr : k ++ [false] <+: p → (p, v) ∉ r.rows := fun hp hm => pre_bits_ne (h3 _ (rows_keys hm)) hp (List.prefix_refl _)
    have nl2 : ¬ k <+: p → (p, v) ∉ l.rows := fun hp hm => hp ((List.prefix_append _ _).trans (h2 _ (rows_keys hm)))
    have nr2 : ¬ k <+: p → (p, v) ∉ r.rows := fun hp hm => hp ((List.prefix_append _ _).trans (h3 _ (rows_keys hm)))
    by_cases hk : k <+: p
    · rw [if_pos hk]
      by_cases hl : k.length = p.length
      · rw [if_pos hl]
        have e := (pre_len hk).1 hl
        subst e
        have a1 : (k, v) ∉ l.rows := fun hm => not_pre_short (h2 _ (rows_keys hm)) (List.prefix_refl _)
        have a2 : (k, v) ∉ r.rows := fun hm => not_pre_short (h3 _ (rows_keys hm)) (List.prefix_refl _)
        simp [a1, a2]
      · rw [if_neg hl]
        have hne : k ≠ p := fun e => hl (by rw [e])
        have hb := (pre_bit hk hne).1
        cases hp : p.getD k.length false with
        | true =>
          rw [hp] at hb
          simp only [if_true, ir h6]
          constructor
          · exact fun h => .inr (.inr h)
          · rintro (⟨e, _⟩ | h | h)
            · exact absurd e.symm hne
            · exact absurd h (nl hb)
            · exact h
        | false =>
          rw [hp] at hb
          simp only [Bool.false_eq_true, if_false, il h5]
          constructor
          · exact fun h => .inr (.inl h)
          · rintro (⟨e, _⟩ | h | h)
            · exact absurd e.symm hne
            · exact h
            · exact absurd h (nr hb)
    · rw [if_neg hk]
      constructor
      · intro h; cases h
      · rintro (⟨e, _⟩ | h | h)
        · exact absurd (by rw [e]; exact List.prefix_refl _) hk
        · exact absurd h (nl2 hk)
        · exact absurd h (nr2 hk)

/-- the rows on the way down -/
def above : TT → Key → List (Key × Int)
  | nil, _ => []
  | node _ k o l r, p => if k <+: p then rowO k o ++ (if k.length = p.length then [] else if p.getD k.length false then r.above p else l.above p) else []
theorem rowO_filter {k p : Key} {o : Option Int} (h : k <+: p) : (rowO k o).filter (fun x => decide (x.1 <+: p)) = rowO k o := by
  cases o <;> simp [rowO, h]
theorem filter_none {L : List (Key × Int)} {p : Key} (h : ∀ x v, (x, v) ∈ L → ¬ x <+: p) : L.filter (fun x => decide (x.1 <+: p)) = [] := by
  rw [List.filter_eq_nil_iff]
  intro x hx
  simpa using h x.1 x.2 hx
theorem above_eq {t : TT} (h : t.WF) (p : Key) : t.above p = t.rows.filter (fun x => decide (x.1 <+: p)) := by
  induction t with
  | nil => rfl
  | node b k o l r il ir =>
    obtain ⟨h1, h2, h3, h4, h5, h6⟩ := h
    simp only [above, TT.rows, List.filter_append]
    by_cases hk : k <+: p
    · rw [if_pos hk, rowO_filter hk]
      congr 1
      by_cases hl : k.length = p.length
      · rw [if_pos hl]
        have e := (pre_len hk).1 hl
        subst e
        rw [filter_none fun x v hx => not_pre_short (h2 _ (rows_keys hx)), filter_none fun x v hx => not_pre_short (h3 _ (rows_keys hx))]
        rfl
      · rw [if_neg hl]
        have hne : k ≠ p := fun e => hl (by rw [e])
        have hb := (pre_bit hk hne).1
        cases hp : p.getD k.length false with
        | true =>
          rw [hp] at hb
          simp only [if_true, ir h6]
          rw [filter_none (L := l.rows) fun x v hx => pre_bits_ne (h2 _ (rows_keys hx)) hb]
          rfl
        | false =>
          rw [hp] at hb
          simp only [Bool.false_eq_true, if_false, il h5]
          rw [filter_none (L := r.rows) fun x v hx => pre_bits_ne (h3 _ (rows_keys hx)) hb]
          simp
    · rw [if_neg hk]
      have e0 : (rowO k o).filter (fun x => decide (x.1 <+: p)) = [] := filter_none fun x v hx => by rw [rowO_mem] at hx; rw [hx.1]; exact hk
      rw [e0, filter_none fun x v hx hp => hk ((List.prefix_append _ _).trans ((h2 _ (rows_keys hx)).trans hp)), filter_none fun x v hx hp => hk ((List.prefix_append _ _).trans ((h3 _ (rows_keys hx)).trans hp))]
      rfl

/-- where p stands, or would stand: the subtree there -/
def spot : TT → Key → TT
  | nil, _ => nil
  | node b k o l r, p => if k <+: p then (if k.length = p.length then node b k o l r else if p.getD k.length false then r.spot p else l.spot p) else node b k o l r
/-- another subtree there -/
def rsub : TT → Key → TT → TT
  | nil, _, X => X
  | node b k o l r, p, X => if k <+: p then (if k.length = p.length then X else if p.getD k.length false then node b k o l (r.rsub p X) else node b k o (l.rsub p X) r) else X
theorem rsub_spot (t : TT) (p : Key) : t.rsub p (t.spot p) = t := by
  induction t with
  | nil => rfl
  | node b k o l r il ir =>
    simp only [rsub, spot]
    repeat' split
    · rfl
    · rw [ir]
    · rw [il]
    · rfl
theorem get_spot (t : TT) (p : Key) : t.get p = match t.spot p with
    | nil => none
    | node _ k o _ _ => if k = p then o else none := by
  induction t with
  | nil => rfl
  | node b k o l r il ir =>
    simp only [get, spot]
    by_cases hk : k <+: p
    · simp only [if_pos hk]
      by_cases hl : k.length = p.length
      · simp [(pre_len hk).1 hl]
      · simp only [if_neg hl]
        split
        · exact ir
        · exact il
    · simp only [if_neg hk]
      rw [if_neg fun e => hk (by rw [e]; exact List.prefix_refl _)]

/-- a key with a value at its place -/
def hang (b1 b2 : Nat) (p : Key) (v : Int) : TT → TT
  | nil => node b1 p (some v) nil nil
  | node b k o l r => if k = p then node b k (some v) l r
    else if lcp k p = p then (if k.getD p.length false then node b1 p (some v) nil (node b k o l r) else node b1 p (some v) (node b k o l r) nil)
    else if p.getD (lcp k p).length false then node b2 (lcp k p) none (node b k o l r) (node b1 p (some v) nil nil) else node b2 (lcp k p) none (node b1 p (some v) nil nil) (node b k o l r)
def put (b1 b2 : Nat) (t : TT) (p : Key) (v : Int) : TT := t.rsub p (hang b1 b2 p v (t.spot p))

theorem spot_top {t : TT} {p : Key} {b : Nat} {k : Key} {o : Option Int} {l r : TT} (h : t.spot p = node b k o l r) : k = p ∨ ¬ k <+: p := by
  induction t with
  | nil => simp [spot] at h
  | node b' k' o' l' r' il ir =>
    simp only [spot] at h
    by_cases hk : k' <+: p
    · rw [if_pos hk] at h
      by_cases hl : k'.length = p.length
      · rw [if_pos hl] at h
        cases h
        exact .inl ((pre_len hk).1 hl)
      · rw [if_neg hl] at h
        split at h
        · exact ir h
        · exact il h
    · rw [if_neg hk] at h
      cases h
      exact .inr hk
theorem keys_pre {q : Key} {b : Nat} {k : Key} {o : Option Int} {l r : TT} (h : (node b k o l r).WF) (hq : q <+: k) : ∀ x ∈ (node b k o l r).keys, q <+: x := by
  obtain ⟨_, h2, h3, _⟩ := h
  intro x hx
  simp only [keys, List.mem_cons, List.mem_append] at hx
  rcases hx with rfl | hx | hx
  · exact hq
  · exact hq.trans ((List.prefix_append _ _).trans (h2 x hx))
  · exact hq.trans ((List.prefix_append _ _).trans (h3 x hx))
theorem hang_ok {t : TT} (h : t.WF) {p : Key} {v : Int} (hp : p.length ≤ 32) (b1 b2 : Nat) (ht : ∀ b k o l r, t = node b k o l r → k = p ∨ ¬ k <+: p) :
    (hang b1 b2 p v t).WF ∧ (∀ q, (∀ x ∈ t.keys, q <+: x) → q <+: p → ∀ x ∈ (hang b1 b2 p v t).keys, q <+: x) ∧ (∀ x u, (x, u) ∈ (hang b1 b2 p v t).rows ↔ x = p ∧ u = v ∨ x ≠ p ∧ (x, u) ∈ t.rows) := by
  cases t with
  | nil =>
    simp only [hang]
    refine ⟨⟨hp, by simp [keys], by simp [keys], by simp, trivial, trivial⟩, fun q _ hq x hx => ?_, fun x u => ?_⟩
    · simp [keys] at hx; rw [hx]; exact hq
    · simp [TT.rows, rowO]
  | node b k o l r =>
    have hW := h
    obtain ⟨h1, h2, h3, h4, h5, h6⟩ := h
    simp only [hang]
    by_cases hk : k = p
    · subst hk
      rw [if_pos rfl]
      refine ⟨⟨h1, h2, h3, by simp, h5, h6⟩, fun q hq _ x hx => hq x hx, fun x u => ?_⟩
      have a1 : (k, u) ∉ l.rows := fun hm => not_pre_short (h2 _ (rows_keys hm)) (List.prefix_refl _)
      have a2 : (k, u) ∉ r.rows := fun hm => not_pre_short (h3 _ (rows_keys hm)) (List.prefix_refl _)
      simp only [TT.rows, List.mem_append, rowO_mem]
      constructor
      · rintro (⟨rfl, e⟩ | h)
        · exact .inl ⟨rfl, (Option.some.inj e).symm⟩
        · by_cases hx : x = k
          · subst hx; rcases h with h | h
            · exact absurd h a1
            · exact absurd h a2
          · exact .inr ⟨hx, .inr h⟩
      · rintro (⟨rfl, rfl⟩ | ⟨hx, ⟨e, _⟩ | h⟩)
        · exact .inl ⟨rfl, rfl⟩
        · exact absurd e hx
        · exact .inr h
    · rw [if_neg hk]
      have hnp : ¬ k <+: p := by
        rcases ht b k o l r rfl with e | e
        · exact absurd e hk
        · exact e
      have hpr : ∀ u, (p, u) ∉ (node b k o l r).rows := fun u hm => hnp (by
        exact keys_pre hW (List.prefix_refl k) p (rows_keys hm))
      by_cases hc : lcp k p = p
      · have hpk : p <+: k := by rw [← hc]; exact lcp_left k p
        obtain ⟨hb, hlt⟩ := pre_bit hpk (fun e => hk e.symm)
        have hall := keys_pre hW hb
        rw [if_pos hc]
        cases hbit : k.getD p.length false with
        | true =>
          rw [hbit] at hall
          simp only [if_true]
          refine ⟨⟨hp, by simp [keys], hall, by simp, trivial, hW⟩, fun q hq hqp x hx => ?_, fun x u => ?_⟩
          · simp only [keys, List.mem_cons, List.mem_append, List.not_mem_nil, false_or] at hx
            rcases hx with rfl | hx
            · exact hqp
            · exact hq x (by simpa [keys] using hx)
          · rw [show (node b1 p (some v) nil (node b k o l r)).rows = (p, v) :: (node b k o l r).rows by simp [TT.rows, rowO]]
            rw [List.mem_cons]
            constructor
            · rintro (e | h)
              · cases e; exact .inl ⟨rfl, rfl⟩
              · exact .inr ⟨fun e => hpr u (by rw [← e]; exact h), h⟩
            · rintro (⟨rfl, rfl⟩ | ⟨_, h⟩)
              · exact .inl rfl
              · exact .inr h
        | false =>
          rw [hbit] at hall
          simp only [Bool.false_eq_true, if_false]
          refine ⟨⟨hp, hall, by simp [keys], by simp, hW, trivial⟩, fun q hq hqp x hx => ?_, fun x u => ?_⟩
          · simp only [keys, List.mem_cons, List.mem_append, List.not_mem_nil, or_false] at hx
            rcases hx with rfl | hx
            · exact hqp
            · exact hq x (by simpa [keys] using hx)
          · rw [show (node b1 p (some v) (node b k o l r) nil).rows = (p, v) :: (node b k o l r).rows by simp [TT.rows, rowO]]
            rw [List.mem_cons]
            constructor
            · rintro (e | h)
              · cases e; exact .inl ⟨rfl, rfl⟩
              · exact .inr ⟨fun e => hpr u (by rw [← e]; exact h), h⟩
            · rintro (⟨rfl, rfl⟩ | ⟨_, h⟩)
              · exact .inl rfl
              · exact .inr h
      · rw [if_neg hc]
        have hck : lcp k p ≠ k := fun e => hnp (by have := lcp_right k p; rwa [e] at this)
        have hpart := lcp_part hck hc
        obtain ⟨hb1, hl1⟩ := pre_bit (lcp_left k p) hck
        obtain ⟨hb2, hl2⟩ := pre_bit (lcp_right k p) hc
        have hall := keys_pre hW hb1
        have hleaf : (node b1 p (some v) nil nil).WF := ⟨hp, by simp [keys], by simp [keys], by simp, trivial, trivial⟩
        have hall2 : ∀ x ∈ (node b1 p (some v) nil nil).keys, lcp k p ++ [p.getD (lcp k p).length false] <+: x := by
          intro x hx; simp [keys] at hx; rw [hx]; exact hb2
        have hrw : ∀ x u, ((x, u) ∈ (node b k o l r).rows ∨ (x, u) ∈ (node b1 p (some v) nil nil).rows) ↔ x = p ∧ u = v ∨ x ≠ p ∧ (x, u) ∈ (node b k o l r).rows := by
          intro x u
          rw [show (node b1 p (some v) nil nil).rows = [(p, v)] by simp [TT.rows, rowO]]
          constructor
          · rintro (h | h)
            · exact .inr ⟨fun e => hpr u (by rw [← e]; exact h), h⟩
            · simp at h; exact .inl h
          · rintro (⟨rfl, rfl⟩ | ⟨_, h⟩)
            · exact .inr (by simp)
            · exact .inl h
        cases hbit : p.getD (lcp k p).length false with
        | true =>
          rw [hbit] at hpart hall2
          have hkb : k.getD (lcp k p).length false = false := by
            cases h : k.getD (lcp k p).length false
            · rfl
            · rw [h] at hpart; cases hpart
          rw [hkb] at hall
          simp only [if_true]
          refine ⟨⟨by omega, hall, hall2, by simp [isN], hW, hleaf⟩, fun q hq hqp x hx => ?_, fun x u => ?_⟩
          · have hqc := lcp_max (hq k (by simp [keys])) hqp
            rw [keys, List.mem_cons, List.mem_append] at hx
            rcases hx with rfl | hx | hx
            · exact hqc
            · exact hq x hx
            · simp [keys] at hx; rw [hx]; exact hqp
          · rw [show (node b2 (lcp k p) none (node b k o l r) (node b1 p (some v) nil nil)).rows = (node b k o l r).rows ++ (node b1 p (some v) nil nil).rows by rw [TT.rows]; rfl, List.mem_append]
            exact hrw x u
        | false =>
          rw [hbit] at hpart hall2
          have hkb : k.getD (lcp k p).length false = true := by
            cases h : k.getD (lcp k p).length false
            · rw [h] at hpart; cases hpart
            · rfl
          rw [hkb] at hall
          simp only [Bool.false_eq_true, if_false]
          refine ⟨⟨by omega, hall2, hall, by simp [isN], hleaf, hW⟩, fun q hq hqp x hx => ?_, fun x u => ?_⟩
          · have hqc := lcp_max (hq k (by simp [keys])) hqp
            rw [keys, List.mem_cons, List.mem_append] at hx
            rcases hx with rfl | hx | hx
            · exact hqc
            · simp [keys] at hx; rw [hx]; exact hqp
            · exact hq x hx
          · rw [show (node b2 (lcp k p) none (node b1 p (some v) nil nil) (node b k o l r)).rows = (node b1 p (some v) nil nil).rows ++ (node b k o l r).rows by rw [TT.rows]; rfl, List.mem_append, Or.comm]
            exact hrw x u

theorem hang_isN (b1 b2 : Nat) (p : Key) (v : Int) (t : TT) : (hang b1 b2 p v t).isN = false := by
  cases t with
  | nil => rfl
  | node b k o l r => simp only [hang]; repeat' split
                      all_goals rfl
theorem rsub_isN {t : TT} {p : Key} {X : TT} (hX : X.isN = false) : (t.rsub p X).isN = false := by
  cases t with
  | nil => exact hX
  | node b k o l r => simp only [rsub]; repeat' split
                      all_goals first | exact hX | rfl

theorem put_ok {t : TT} (h : t.WF) {p : Key} {v : Int} (hp : p.length ≤ 32) (b1 b2 : Nat) :
    (t.put b1 b2 p v).WF ∧ (∀ q, (∀ x ∈ t.keys, q <+: x) → q <+: p → ∀ x ∈ (t.put b1 b2 p v).keys, q <+: x) ∧ (∀ x u, (x, u) ∈ (t.put b1 b2 p v).rows ↔ x = p ∧ u = v ∨ x ≠ p ∧ (x, u) ∈ t.rows) := by
  unfold put
  induction t with
  | nil => exact hang_ok h hp b1 b2 (fun _ _ _ _ _ e => by cases e)
  | node b k o l r il ir =>
    have hW := h
    obtain ⟨h1, h2, h3, h4, h5, h6⟩ := h
    simp only [spot, rsub]
    by_cases hk : k <+: p
    · simp only [if_pos hk]
      by_cases hl : k.length = p.length
      · simp only [if_pos hl]
        have e := (pre_len hk).1 hl
        exact hang_ok hW hp b1 b2 (fun _ _ _ _ _ e2 => by cases e2; exact .inl e)
      · simp only [if_neg hl]
        have hne : k ≠ p := fun e => hl (by rw [e])
        have hb := (pre_bit hk hne).1
        cases hbit : p.getD k.length false with
        | true =>
          rw [hbit] at hb
          simp only [if_true]
          obtain ⟨i1, i2, i3⟩ := ir h6
          refine ⟨⟨h1, h2, i2 _ h3 hb, fun e => ⟨(h4 e).1, rsub_isN (hang_isN ..)⟩, h5, i1⟩, fun q hq hqp x hx => ?_, fun x u => ?_⟩
          · rw [keys, List.mem_cons, List.mem_append] at hx
            rcases hx with rfl | hx | hx
            · exact hq _ (by simp [keys])
            · exact hq _ (by simp [keys, hx])
            · exact i2 q (fun y hy => hq y (by simp [keys, hy])) hqp x hx
          · have nl : ∀ u, (p, u) ∉ l.rows := fun u hm => pre_bits_ne (h2 _ (rows_keys hm)) hb (List.prefix_refl _)
            rw [TT.rows, TT.rows, List.mem_append, List.mem_append, List.mem_append, List.mem_append, i3, rowO_mem]
            constructor
            · rintro (⟨rfl, e⟩ | h | h | ⟨h, h'⟩)
              · exact .inr ⟨hne, .inl ⟨rfl, e⟩⟩
              · exact .inr ⟨fun e => nl u (by rw [← e]; exact h), .inr (.inl h)⟩
              · exact .inl h
              · exact .inr ⟨h, .inr (.inr h')⟩
            · rintro (h | ⟨h, h' | h' | h'⟩)
              · exact .inr (.inr (.inl h))
              · exact .inl h'
              · exact .inr (.inl h')
              · exact .inr (.inr (.inr ⟨h, h'⟩))
        | false =>
          rw [hbit] at hb
          simp only [Bool.false_eq_true, if_false]
          obtain ⟨i1, i2, i3⟩ := il h5
          refine ⟨⟨h1, i2 _ h2 hb, h3, fun e => ⟨rsub_isN (hang_isN ..), (h4 e).2⟩, i1, h6⟩, fun q hq hqp x hx => ?_, fun x u => ?_⟩
          · rw [keys, List.mem_cons, List.mem_append] at hx
            rcases hx with rfl | hx | hx
            · exact hq _ (by simp [keys])
            · exact i2 q (fun y hy => hq y (by simp [keys, hy])) hqp x hx
            · exact hq _ (by simp [keys, hx])
          · have nr : ∀ u, (p, u) ∉ r.rows := fun u hm => pre_bits_ne (h3 _ (rows_keys hm)) hb (List.prefix_refl _)
            rw [TT.rows, TT.rows, List.mem_append, List.mem_append, List.mem_append, List.mem_append, i3, rowO_mem]
            constructor
            · rintro (⟨rfl, e⟩ | (h | ⟨h, h'⟩) | h)
              · exact .inr ⟨hne, .inl ⟨rfl, e⟩⟩
              · exact .inl h
              · exact .inr ⟨h, .inr (.inl h')⟩
              · exact .inr ⟨fun e => nr u (by rw [← e]; exact h), .inr (.inr h)⟩
            · rintro (h | ⟨h, h' | h' | h'⟩)
              · exact .inr (.inl (.inl h))
              · exact .inl h'
              · exact .inr (.inl (.inr ⟨h, h'⟩))
              · exact .inr (.inr h')
    · simp only [if_neg hk]
      exact hang_ok hW hp b1 b2 (fun _ _ _ _ _ e2 => by cases e2; exact .inr hk)

/-- what stays where a node stands -/
def kept : TT → TT
  | nil => nil
  | node b k (some v) l r => node b k (some v) l r
  | node b k none l r => if l.isN then r else if r.isN then l else node b k none l r
/-- the way is tidied, but for its first d places -/
def tidyN : TT → Key → Nat → TT
  | nil, _, _ => nil
  | node b k o l r, p, d => if k <+: p then (if k.length = p.length then (if d = 0 then kept (node b k o l r) else node b k o l r)
      else if p.getD k.length false then (if d = 0 then kept (node b k o l (r.tidyN p 0)) else node b k o l (r.tidyN p (d - 1))) else (if d = 0 then kept (node b k o (l.tidyN p 0) r) else node b k o (l.tidyN p (d - 1)) r)) else node b k o l r
/-- p loses its value -/
def clear : TT → Key → TT
  | nil, _ => nil
  | node b k o l r, p => if k <+: p then (if k.length = p.length then node b k none l r else if p.getD k.length false then node b k o l (r.clear p) else node b k o (l.clear p) r) else node b k o l r
def take (t : TT) (p : Key) : TT := (t.clear p).tidyN p 0

theorem kept_ok {b : Nat} {k : Key} {o : Option Int} {l r : TT} (h1 : k.length ≤ 32) (h2 : ∀ x ∈ l.keys, k ++ [false] <+: x) (h3 : ∀ x ∈ r.keys, k ++ [true] <+: x) (h5 : l.WF) (h6 : r.WF) :
    (kept (node b k o l r)).WF ∧ (∀ x ∈ (kept (node b k o l r)).keys, x ∈ (node b k o l r).keys) ∧ (kept (node b k o l r)).rows = (node b k o l r).rows := by
  cases o with
  | some v => exact ⟨⟨h1, h2, h3, by simp, h5, h6⟩, fun x hx => hx, Eq.refl (node b k (some v) l r).rows⟩
  | none =>
    simp only [kept]
    cases hl : l.isN with
    | true =>
      rw [isN_iff] at hl
      subst hl
      simp only [if_true]
      exact ⟨h6, fun x hx => by simp [keys, hx], by simp [TT.rows, rowO]⟩
    | false =>
      cases hr : r.isN with
      | true =>
        rw [isN_iff] at hr
        subst hr
        simp only [Bool.false_eq_true, if_false, if_true]
        exact ⟨h5, fun x hx => by simp [keys, hx], by simp [TT.rows, rowO]⟩
      | false =>
        simp only [Bool.false_eq_true, if_false]
        exact ⟨⟨h1, h2, h3, fun _ => ⟨hl, hr⟩, h5, h6⟩, fun x hx => hx, trivial⟩
theorem take_ok {t : TT} (h : t.WF) (p : Key) :
    (t.take p).WF ∧ (∀ x ∈ (t.take p).keys, x ∈ t.keys) ∧ (∀ x u, (x, u) ∈ (t.take p).rows ↔ x ≠ p ∧ (x, u) ∈ t.rows) := by
  unfold take
  induction t with
  | nil => exact ⟨trivial, fun _ h => h, fun x u => by simp [clear, tidyN, TT.rows]⟩
  | node b k o l r il ir =>
    have hW := h
    obtain ⟨h1, h2, h3, h4, h5, h6⟩ := h
    simp only [clear]
    by_cases hk : k <+: p
    · simp only [if_pos hk]
      by_cases hl : k.length = p.length
      · simp only [if_pos hl, tidyN, if_pos hk]
        have e := (pre_len hk).1 hl
        subst e
        simp only [if_true]
        obtain ⟨k1, k2, k3⟩ := kept_ok (b := b) (o := none) h1 h2 h3 h5 h6
        refine ⟨k1, fun x hx => k2 x hx, fun x u => ?_⟩
        rw [k3]
        have a1 : (k, u) ∉ l.rows := fun hm => not_pre_short (h2 _ (rows_keys hm)) (List.prefix_refl _)
        have a2 : (k, u) ∉ r.rows := fun hm => not_pre_short (h3 _ (rows_keys hm)) (List.prefix_refl _)
        simp only [TT.rows, List.mem_append, rowO_mem]
        constructor
        · rintro (⟨_, e⟩ | h)
          · cases e
          · refine ⟨?_, .inr h⟩
            rintro rfl
            rcases h with h | h
            · exact a1 h
            · exact a2 h
        · rintro ⟨hx, ⟨e, _⟩ | h⟩
          · exact absurd e hx
          · exact .inr h
      · simp only [if_neg hl]
        have hne : k ≠ p := fun e => hl (by rw [e])
        have hb := (pre_bit hk hne).1
        cases hbit : p.getD k.length false with
        | true =>
          rw [hbit] at hb
          simp only [if_true, tidyN, if_pos hk, if_neg hl, hbit]
          obtain ⟨i1, i2, i3⟩ := ir h6
          obtain ⟨k1, k2, k3⟩ := kept_ok (b := b) (o := o) h1 h2 (fun x hx => h3 x (i2 x hx)) h5 i1
          refine ⟨k1, fun x hx => ?_, fun x u => ?_⟩
          · have := k2 x hx
            rw [keys, List.mem_cons, List.mem_append] at this ⊢
            rcases this with h | h | h
            · exact .inl h
            · exact .inr (.inl h)
            · exact .inr (.inr (i2 x h))
          · rw [k3]
            have nl : ∀ u, (p, u) ∉ l.rows := fun u hm => pre_bits_ne (h2 _ (rows_keys hm)) hb (List.prefix_refl _)
            rw [TT.rows, TT.rows, List.mem_append, List.mem_append, List.mem_append, List.mem_append, i3, rowO_mem]
            constructor
            · rintro (⟨rfl, e⟩ | h | ⟨h, h'⟩)
              · exact ⟨hne, .inl ⟨rfl, e⟩⟩
              · exact ⟨fun e => nl u (by rw [← e]; exact h), .inr (.inl h)⟩
              · exact ⟨h, .inr (.inr h')⟩
            · rintro ⟨h, h' | h' | h'⟩
              · exact .inl h'
              · exact .inr (.inl h')
              · exact .inr (.inr ⟨h, h'⟩)
        | false =>
          rw [hbit] at hb
          simp only [Bool.false_eq_true, if_false, tidyN, if_pos hk, if_neg hl, hbit, if_true]
          obtain ⟨i1, i2, i3⟩ := il h5
          obtain ⟨k1, k2, k3⟩ := kept_ok (b := b) (o := o) h1 (fun x hx => h2 x (i2 x hx)) h3 i1 h6
          refine ⟨k1, fun x hx => ?_, fun x u => ?_⟩
          · have := k2 x hx
            rw [keys, List.mem_cons, List.mem_append] at this ⊢
            rcases this with h | h | h
            · exact .inl h
            · exact .inr (.inl (i2 x h))
            · exact .inr (.inr h)
          · rw [k3]
            have nr : ∀ u, (p, u) ∉ r.rows := fun u hm => pre_bits_ne (h3 _ (rows_keys hm)) hb (List.prefix_refl _)
            rw [TT.rows, TT.rows, List.mem_append, List.mem_append, List.mem_append, List.mem_append, i3, rowO_mem]
            constructor
            · rintro (⟨rfl, e⟩ | ⟨h, h'⟩ | h)
              · exact ⟨hne, .inl ⟨rfl, e⟩⟩
              · exact ⟨h, .inr (.inl h')⟩
              · exact ⟨fun e => nr u (by rw [← e]; exact h), .inr (.inr h)⟩
            · rintro ⟨h, h' | h' | h'⟩
              · exact .inl h'
              · exact .inr (.inl ⟨h, h'⟩)
              · exact .inr (.inr h')
    · simp only [if_neg hk, tidyN]
      refine ⟨hW, fun x hx => hx, fun x u => ⟨fun hm => ⟨?_, hm⟩, fun hm => hm.2⟩⟩
      rintro rfl
      exact hk (keys_pre hW (List.prefix_refl k) _ (rows_keys hm))

/-- how many nodes there may be -/
theorem sz_le {t : TT} (h : t.WF) : t.sz ≤ 2 * t.rows.length - 1 ∧ t.rows.length ≤ t.sz ∧ (t.rows.length = 0 → t.sz = 0) := by
  induction t with
  | nil => simp [sz, TT.rows]
  | node b k o l r il ir =>
    obtain ⟨h1, h2, h3, h4, h5, h6⟩ := h
    have a := il h5
    have c := ir h6
    simp only [sz, TT.rows, List.length_append]
    cases o with
    | some v => simp only [rowO, List.length_singleton]; omega
    | none =>
      simp only [rowO, List.length_nil]
      have hl := (h4 rfl).1
      have hr := (h4 rfl).2
      have s1 : 1 ≤ l.sz := by cases l <;> simp [isN, sz] at hl ⊢
      have s2 : 1 ≤ r.sz := by cases r <;> simp [isN, sz] at hr ⊢
      omega
theorem dp_le {t : TT} (h : t.WF) {q : Key} (hq : ∀ x ∈ t.keys, q <+: x) (hl : q.length ≤ 33) : t.dp + q.length ≤ 33 := by
  induction t generalizing q with
  | nil => simp [dp]; exact hl
  | node b k o l r il ir =>
    obtain ⟨h1, h2, h3, h4, h5, h6⟩ := h
    have := (hq k (by simp [keys])).length_le
    have a := il h5 h2 (by simp; omega)
    have c := ir h6 h3 (by simp; omega)
    simp only [dp, List.length_append, List.length_singleton] at *
    omega
theorem dp_zero {t : TT} : t.dp = 0 ↔ t.sz = 0 := by cases t <;> simp [dp, sz]

/-- the nodes are what each two of the prefixes have in common -/
theorem keys_lcp {t : TT} (h : t.WF) (x : Key) : x ∈ t.keys ↔ ∃ y u z v, (y, u) ∈ t.rows ∧ (z, v) ∈ t.rows ∧ x = lcp y z := by
  induction t with
  | nil => simp [keys, TT.rows]
  | node b k o l r il ir =>
    obtain ⟨h1, h2, h3, h4, h5, h6⟩ := h
    constructor
    · intro hx
      rw [keys, List.mem_cons, List.mem_append] at hx
      rcases hx with rfl | hx | hx
      · cases o with
        | some v => exact ⟨x, v, x, v, by simp [TT.rows, rowO], by simp [TT.rows, rowO], (lcp_self x).symm⟩
        | none =>
          obtain ⟨y, u, hy⟩ := isN_rows h5 (h4 rfl).1
          obtain ⟨z, v, hz⟩ := isN_rows h6 (h4 rfl).2
          exact ⟨y, u, z, v, by simp [TT.rows, hy], by simp [TT.rows, hz], (lcp_split (h2 _ (rows_keys hy)) (h3 _ (rows_keys hz))).symm⟩
      · obtain ⟨y, u, z, v, hy, hz, e⟩ := (il h5).1 hx
        exact ⟨y, u, z, v, by simp [TT.rows, hy], by simp [TT.rows, hz], e⟩
      · obtain ⟨y, u, z, v, hy, hz, e⟩ := (ir h6).1 hx
        exact ⟨y, u, z, v, by simp [TT.rows, hy], by simp [TT.rows, hz], e⟩
    · rintro ⟨y, u, z, v, hy, hz, rfl⟩
      rw [TT.rows, List.mem_append, List.mem_append, rowO_mem] at hy hz
      rw [keys, List.mem_cons, List.mem_append]
      have pl : ∀ y u, (y, u) ∈ l.rows → k <+: y := fun y u h => (List.prefix_append _ _).trans (h2 _ (rows_keys h))
      have pr : ∀ y u, (y, u) ∈ r.rows → k <+: y := fun y u h => (List.prefix_append _ _).trans (h3 _ (rows_keys h))
      rcases hy with ⟨rfl, _⟩ | hy | hy
      · left
        rcases hz with ⟨rfl, _⟩ | hz | hz
        · exact lcp_self _
        · exact lcp_of_pre (pl _ _ hz)
        · exact lcp_of_pre (pr _ _ hz)
      · rcases hz with ⟨rfl, _⟩ | hz | hz
        · left; rw [lcp_comm]; exact lcp_of_pre (pl _ _ hy)
        · exact .inr (.inl ((il h5).2 ⟨y, u, z, v, hy, hz, rfl⟩))
        · left; exact lcp_split (h2 _ (rows_keys hy)) (h3 _ (rows_keys hz))
      · rcases hz with ⟨rfl, _⟩ | hz | hz
        · left; rw [lcp_comm]; exact lcp_of_pre (pr _ _ hy)
        · left; rw [lcp_comm]; exact lcp_split (h2 _ (rows_keys hz)) (h3 _ (rows_keys hy))
        · exact .inr (.inr ((ir h6).2 ⟨y, u, z, v, hy, hz, rfl⟩))

/-- the depth is the most nodes around one -/
def anc (t : TT) (x : Key) : Nat := (t.keys.filter fun y => decide (y <+: x)).length
theorem anc_le {t : TT} (h : t.WF) {x : Key} (hx : x ∈ t.keys) : t.anc x ≤ t.dp := by
  induction t with
  | nil => simp [keys] at hx
  | node b k o l r il ir =>
    obtain ⟨h1, h2, h3, h4, h5, h6⟩ := h
    unfold anc
    simp only [keys, List.filter_cons, List.filter_append, dp]
    rw [keys, List.mem_cons, List.mem_append] at hx
    rcases hx with rfl | hx | hx
    · have e1 : l.keys.filter (fun y => decide (y <+: x)) = [] := by
        rw [List.filter_eq_nil_iff]; intro y hy; simpa using not_pre_short (h2 y hy)
      have e2 : r.keys.filter (fun y => decide (y <+: x)) = [] := by
        rw [List.filter_eq_nil_iff]; intro y hy; simpa using not_pre_short (h3 y hy)
      rw [e1, e2]
      simp
    · have e2 : r.keys.filter (fun y => decide (y <+: x)) = [] := by
        rw [List.filter_eq_nil_iff]; intro y hy; simpa using pre_bits_ne (h3 y hy) (h2 x hx)
      have := il h5 hx
      unfold anc at this
      rw [e2]
      split <;> simp <;> omega
    · have e2 : l.keys.filter (fun y => decide (y <+: x)) = [] := by
        rw [List.filter_eq_nil_iff]; intro y hy; simpa using pre_bits_ne (h2 y hy) (h3 x hx)
      have := ir h6 hx
      unfold anc at this
      rw [e2]
      split <;> simp <;> omega
theorem anc_ex {t : TT} (h : t.WF) (hn : t.isN = false) : ∃ x ∈ t.keys, t.anc x = t.dp := by
  induction t with
  | nil => simp [isN] at hn
  | node b k o l r il ir =>
    obtain ⟨h1, h2, h3, h4, h5, h6⟩ := h
    have step : ∀ x, k <+: x → (node b k o l r).anc x = (l.keys.filter fun y => decide (y <+: x)).length + (r.keys.filter fun y => decide (y <+: x)).length + 1 := by
      intro x hx
      unfold anc
      simp [keys, List.filter_append, hx]
    rcases Nat.lt_or_ge l.dp r.dp with hlt | hge
    · have hr : r.isN = false := by cases r <;> simp [isN, dp] at hlt ⊢
      obtain ⟨x, hx, e⟩ := ir h6 hr
      refine ⟨x, by simp [keys, hx], ?_⟩
      rw [step x ((List.prefix_append _ _).trans (h3 x hx))]
      have e2 : l.keys.filter (fun y => decide (y <+: x)) = [] := by
        rw [List.filter_eq_nil_iff]; intro y hy; simpa using pre_bits_ne (h2 y hy) (h3 x hx)
      unfold anc at e
      simp only [e2, e, dp, List.length_nil]
      omega
    · cases hl : l.isN with
      | true =>
        rw [isN_iff] at hl
        subst hl
        have hr : r = nil := by
          cases r with
          | nil => rfl
          | node _ _ _ _ _ => simp [dp] at hge
        subst hr
        exact ⟨k, by simp [keys], by rw [step k (List.prefix_refl k)]; simp [keys, dp]⟩
      | false =>
        obtain ⟨x, hx, e⟩ := il h5 hl
        refine ⟨x, by simp [keys, hx], ?_⟩
        rw [step x ((List.prefix_append _ _).trans (h2 x hx))]
        have e2 : r.keys.filter (fun y => decide (y <+: x)) = [] := by
          rw [List.filter_eq_nil_iff]; intro y hy; simpa using pre_bits_ne (h3 y hy) (h2 x hx)
        unfold anc at e
        simp only [e2, e, dp, List.length_nil]
        omega
end TT
end Go.Proofs.YtbacahoihkpkpaaDoor
/- Plain: the document's list of rows: put, take, above, from, its nodes. No program in sight. -/
namespace Go.Proofs.YtbacahoihkpkpaaDoor

abbrev Row := Key × Int
def LenR (L : List Row) : Prop := ∀ x ∈ L, x.1.length ≤ 32
theorem TT.WF.lenR {t : TT} (h : t.WF) : LenR t.rows := fun x hx => h.len (TT.rows_keys (v := x.2) hx)

theorem ordR_at {L : List Row} (h : TT.OrdR L) {i j : Nat} {x y : Row} (hi : L[i]? = some x) (hj : L[j]? = some y) (hij : i < j) : klt x.1 y.1 := by
  obtain ⟨hi', rfl⟩ := List.getElem?_eq_some_iff.1 hi
  obtain ⟨hj', rfl⟩ := List.getElem?_eq_some_iff.1 hj
  exact List.pairwise_iff_getElem.1 h i j hi' hj' hij
theorem ordR_one {L : List Row} (h : TT.OrdR L) {i j : Nat} {x y : Row} (hi : L[i]? = some x) (hj : L[j]? = some y) (e : x.1 = y.1) : i = j := by
  rcases Nat.lt_trichotomy i j with hlt | he | hlt
  · have := ordR_at h hi hj hlt; rw [e] at this; exact absurd this (klt_irrefl _)
  · exact he
  · have := ordR_at h hj hi hlt; rw [e] at this; exact absurd this (klt_irrefl _)
theorem ordR_mem {L : List Row} (h : TT.OrdR L) {x : Key} {u v : Int} (h1 : (x, u) ∈ L) (h2 : (x, v) ∈ L) : u = v := by
  obtain ⟨i, hi⟩ := List.getElem?_of_mem h1
  obtain ⟨j, hj⟩ := List.getElem?_of_mem h2
  have := ordR_one h hi hj rfl
  subst this
  rw [hi] at hj
  exact (Prod.ext_iff.1 (Option.some.inj hj)).2

/-- where a key stands -/
def idxR (L : List Row) (p : Key) : Option Nat := L.findIdx? (fun x => decide (x.1 = p))
theorem idxR_some {L : List Row} {p : Key} {i : Nat} (h : idxR L p = some i) : ∃ v, L[i]? = some (p, v) := by
  obtain ⟨hi, h1, _⟩ := List.findIdx?_eq_some_iff_getElem.1 h
  exact ⟨L[i].2, by rw [List.getElem?_eq_getElem hi]; simp at h1; rw [← h1]⟩
theorem idxR_none {L : List Row} {p : Key} (h : idxR L p = none) : ∀ v, (p, v) ∉ L := by
  intro v hm
  have := List.findIdx?_eq_none_iff.1 h _ hm
  simp at this
theorem idxR_of {L : List Row} (hO : TT.OrdR L) {p : Key} {i : Nat} {v : Int} (h : L[i]? = some (p, v)) : idxR L p = some i := by
  cases hx : idxR L p with
  | none => exact absurd (List.mem_of_getElem? h) (idxR_none hx v)
  | some j =>
    obtain ⟨u, hu⟩ := idxR_some hx
    rw [ordR_one hO hu h rfl]

theorem takeWhile_all {α : Type} {f : α → Bool} {L : List α} {x : α} (h : x ∈ L.takeWhile f) : f x = true := by
  induction L with
  | nil => simp at h
  | cons y L ih =>
    rw [List.takeWhile_cons] at h
    split at h
    · rcases List.mem_cons.1 h with rfl | h
      · assumption
      · exact ih h
    · simp at h
/-- how many stand ahead of a place -/
def aheadR (L : List Row) (p : Key) : Nat := (L.takeWhile fun x => decide (klt x.1 p)).length
theorem aheadR_le (L : List Row) (p : Key) : aheadR L p ≤ L.length := (List.takeWhile_prefix _).length_le
theorem take_ahead (L : List Row) (p : Key) : L.take (aheadR L p) = L.takeWhile fun x => decide (klt x.1 p) := (List.prefix_iff_eq_take.1 (List.takeWhile_prefix _)).symm
def insR (L : List Row) (p : Key) (v : Int) : List Row := L.take (aheadR L p) ++ (p, v) :: L.drop (aheadR L p)
theorem drop_ahead {L : List Row} (hO : TT.OrdR L) (p : Key) : ∀ x ∈ L.drop (aheadR L p), ¬ klt x.1 p := by
  unfold aheadR
  induction L with
  | nil => simp
  | cons y L ih =>
    unfold TT.OrdR at hO
    rw [List.pairwise_cons] at hO
    rw [List.takeWhile_cons]
    by_cases hy : klt y.1 p
    · simp only [hy, decide_true, if_true, List.length_cons, List.drop_succ_cons]
      exact ih hO.2
    · simp only [hy, decide_false, Bool.false_eq_true, if_false, List.length_nil, List.drop_zero]
      intro x hx
      rcases List.mem_cons.1 hx with rfl | hx
      · exact hy
      · exact fun h => hy (klt_trans (hO.1 x hx) h)
theorem aheadR_of {L : List Row} (hO : TT.OrdR L) {p : Key} {n : Nat} (hn : n ≤ L.length) (h1 : ∀ x ∈ L.take n, klt x.1 p) (h2 : ∀ x, L[n]? = some x → ¬ klt x.1 p) : n = aheadR L p := by
  rcases Nat.lt_trichotomy n (aheadR L p) with h | h | h
  · exfalso
    have hl := aheadR_le L p
    obtain ⟨x, hx⟩ : ∃ x, L[n]? = some x := ⟨_, List.getElem?_eq_getElem (by omega)⟩
    have : x ∈ L.take (aheadR L p) := by
      refine List.mem_of_getElem? (i := n) ?_
      rw [List.getElem?_take_of_lt h, hx]
    rw [take_ahead] at this
    have := takeWhile_all this
    exact h2 x hx (by simpa using this)
  · exact h
  · exfalso
    obtain ⟨x, hx⟩ : ∃ x, L[aheadR L p]? = some x := ⟨_, List.getElem?_eq_getElem (by omega)⟩
    have m1 : x ∈ L.take n := by
      refine List.mem_of_getElem? (i := aheadR L p) ?_
      rw [List.getElem?_take_of_lt h, hx]
    have m2 : x ∈ L.drop (aheadR L p) := by
      refine List.mem_of_getElem? (i := 0) ?_
      rw [List.getElem?_drop, Nat.add_zero, hx]
    exact drop_ahead hO p x m2 (h1 x m1)
theorem insR_ok {L : List Row} (hO : TT.OrdR L) {p : Key} (hp : p.length ≤ 32) (hno : ∀ v, (p, v) ∉ L) (v : Int) :
    TT.OrdR (insR L p v) ∧ ∀ x u, (x, u) ∈ insR L p v ↔ x = p ∧ u = v ∨ x ≠ p ∧ (x, u) ∈ L := by
  have hsplit := List.take_append_drop (aheadR L p) L
  have hO2 := hO
  rw [← hsplit] at hO2
  unfold TT.OrdR at hO2
  rw [List.pairwise_append] at hO2
  have ht : ∀ x ∈ L.take (aheadR L p), klt x.1 p := fun x hx => by
    rw [take_ahead] at hx
    simpa using takeWhile_all hx
  have hd : ∀ x ∈ L.drop (aheadR L p), klt p x.1 := fun x hx => by
    have h1 := drop_ahead hO p x hx
    have hm := List.mem_of_mem_drop hx
    refine Classical.byContradiction fun h2 => ?_
    have := klt_tri hp h2 h1
    exact hno x.2 (by rw [this]; exact hm)
  constructor
  · unfold insR TT.OrdR
    rw [List.pairwise_append, List.pairwise_cons]
    refine ⟨hO2.1, ⟨hd, hO2.2.1⟩, fun x hx y hy => ?_⟩
    rcases List.mem_cons.1 hy with rfl | hy
    · exact ht x hx
    · exact hO2.2.2 x hx y hy
  · intro x u
    unfold insR
    have hm : (x, u) ∈ L ↔ (x, u) ∈ L.take (aheadR L p) ∨ (x, u) ∈ L.drop (aheadR L p) := by
      rw [← List.mem_append, hsplit]
    rw [List.mem_append, List.mem_cons, hm]
    constructor
    · rintro (h | h | h)
      · exact .inr ⟨fun e => hno u (by rw [← e]; exact hm.2 (.inl h)), .inl h⟩
      · cases h; exact .inl ⟨rfl, rfl⟩
      · exact .inr ⟨fun e => hno u (by rw [← e]; exact hm.2 (.inr h)), .inr h⟩
    · rintro (⟨rfl, rfl⟩ | ⟨_, h | h⟩)
      · exact .inr (.inl rfl)
      · exact .inl h
      · exact .inr (.inr h)
theorem setR_ok {L : List Row} (hO : TT.OrdR L) {p : Key} {i : Nat} {w : Int} (hi : L[i]? = some (p, w)) (v : Int) :
    TT.OrdR (L.set i (p, v)) ∧ ∀ x u, (x, u) ∈ L.set i (p, v) ↔ x = p ∧ u = v ∨ x ≠ p ∧ (x, u) ∈ L := by
  obtain ⟨hl, hg⟩ := List.getElem?_eq_some_iff.1 hi
  have hmap : (L.set i (p, v)).map (·.1) = L.map (·.1) := by
    rw [List.map_set]
    refine List.ext_getElem? fun j => ?_
    rw [List.getElem?_set]
    split
    · rename_i e; subst e
      rw [if_pos (by simpa using hl), List.getElem?_map, hi]; rfl
    · rfl
  constructor
  · have h1 : (L.map (·.1)).Pairwise klt := List.pairwise_map.2 hO
    rw [← hmap] at h1
    exact List.pairwise_map.1 h1
  · intro x u
    constructor
    · intro h
      obtain ⟨j, hj⟩ := List.getElem?_of_mem h
      rw [List.getElem?_set] at hj
      by_cases hne : i = j
      · rw [if_pos hne, if_pos hl] at hj
        cases hj; exact .inl ⟨rfl, rfl⟩
      · rw [if_neg hne] at hj
        refine .inr ⟨?_, List.mem_of_getElem? hj⟩
        rintro rfl
        exact hne (ordR_one hO hi hj rfl)
    · rintro (⟨rfl, rfl⟩ | ⟨hx, h⟩)
      · exact List.mem_of_getElem? (i := i) (by rw [List.getElem?_set_self hl])
      · obtain ⟨j, hj⟩ := List.getElem?_of_mem h
        refine List.mem_of_getElem? (i := j) ?_
        rw [List.getElem?_set_ne, hj]
        rintro rfl
        rw [hi] at hj
        cases hj
        exact hx rfl
def delR (L : List Row) (i : Nat) : List Row := L.take i ++ L.drop (i + 1)
theorem delR_ok {L : List Row} (hO : TT.OrdR L) {p : Key} {i : Nat} {w : Int} (hi : L[i]? = some (p, w)) :
    TT.OrdR (delR L i) ∧ ∀ x u, (x, u) ∈ delR L i ↔ x ≠ p ∧ (x, u) ∈ L := by
  obtain ⟨hl, hg⟩ := List.getElem?_eq_some_iff.1 hi
  have hsplit : L = L.take i ++ (p, w) :: L.drop (i + 1) := by
    rw [← hg, List.getElem_cons_drop]
    exact (List.take_append_drop i L).symm
  have hO2 := hO
  rw [hsplit] at hO2
  unfold TT.OrdR at hO2
  rw [List.pairwise_append, List.pairwise_cons] at hO2
  constructor
  · unfold delR TT.OrdR
    rw [List.pairwise_append]
    exact ⟨hO2.1, hO2.2.1.2, fun x hx y hy => hO2.2.2 x hx y (List.mem_cons_of_mem _ hy)⟩
  · intro x u
    have hm : (x, u) ∈ L ↔ (x, u) ∈ L.take i ∨ (x, u) = (p, w) ∨ (x, u) ∈ L.drop (i + 1) := by
      rw [← List.mem_cons, ← List.mem_append, ← hsplit]
    unfold delR
    rw [List.mem_append, hm]
    constructor
    · rintro (h | h)
      · refine ⟨fun e => ?_, .inl h⟩
        have := hO2.2.2 _ h (p, w) (List.mem_cons_self ..)
        rw [e] at this
        exact klt_irrefl _ this
      · refine ⟨fun e => ?_, .inr (.inr h)⟩
        have := hO2.2.1.1 _ h
        rw [e] at this
        exact klt_irrefl _ this
    · rintro ⟨hx, h | h | h⟩
      · exact .inl h
      · cases h; exact absurd rfl hx
      · exact .inr h

/-- of a list in order, the rows around p that are shorter than n -/
def abvR (L : List Row) (p : Key) (n : Nat) : List Row := L.filter fun x => decide (x.1 <+: p) && decide (x.1.length < n)
theorem abvR_zero (L : List Row) (p : Key) : abvR L p 0 = [] := by simp [abvR]
theorem abvR_all (L : List Row) (p : Key) : abvR L p (p.length + 1) = L.filter fun x => decide (x.1 <+: p) := by
  unfold abvR
  refine List.filter_congr fun x _ => ?_
  by_cases h : x.1 <+: p
  · have := h.length_le
    simp [h]; omega
  · simp [h]
theorem ordR_filter {L : List Row} (h : TT.OrdR L) (f : Row → Bool) : TT.OrdR (L.filter f) := List.Pairwise.sublist (List.filter_sublist ..) h
theorem abvR_succ_some {L : List Row} (hO : TT.OrdR L) {p : Key} (hp : p.length ≤ 32) {n : Nat} (hn : n ≤ p.length) {v : Int} {i : Nat} (hi : L[i]? = some (p.take n, v)) : abvR L p (n + 1) = abvR L p n ++ [(p.take n, v)] := by
  have htl : (p.take n).length = n := by rw [List.length_take]; omega
  refine ordR_ext (ordR_filter hO _) ?_ fun x => ?_
  · unfold TT.OrdR
    rw [List.pairwise_append]
    refine ⟨ordR_filter hO _, List.pairwise_singleton _ _, fun x hx y hy => ?_⟩
    rw [List.mem_singleton] at hy
    subst hy
    unfold abvR at hx
    rw [List.mem_filter] at hx
    simp only [Bool.and_eq_true, decide_eq_true_eq] at hx
    show klt x.1 (p.take n)
    refine klt_pre (by omega) (List.prefix_of_prefix_length_le hx.2.1 (List.take_prefix _ _) (by omega)) ?_
    intro e
    have h2 := hx.2.2
    rw [e] at h2
    omega
  · unfold abvR
    rw [List.mem_append, List.mem_singleton, List.mem_filter, List.mem_filter]
    simp only [Bool.and_eq_true, decide_eq_true_eq]
    constructor
    · rintro ⟨hm, h1, h2⟩
      rcases Nat.lt_or_ge x.1.length n with h3 | h3
      · exact .inl ⟨hm, h1, h3⟩
      · right
        have e : x.1 = p.take n := by
          rw [List.prefix_iff_eq_take.1 h1, show x.1.length = n by omega]
        have := ordR_mem hO (x := x.1) (u := x.2) (v := v) hm (by rw [e]; exact List.mem_of_getElem? hi)
        exact Prod.ext e this
    · rintro (⟨hm, h1, h2⟩ | rfl)
      · exact ⟨hm, h1, by omega⟩
      · exact ⟨List.mem_of_getElem? hi, List.take_prefix _ _, by simp [htl]⟩
theorem abvR_succ_none {L : List Row} {p : Key} {n : Nat} (hno : ∀ v, (p.take n, v) ∉ L) : abvR L p (n + 1) = abvR L p n := by
  unfold abvR
  refine List.filter_congr fun x hx => ?_
  by_cases h : x.1 <+: p
  · simp only [h, decide_true, Bool.true_and, decide_eq_decide]
    constructor
    · intro h2
      rcases Nat.lt_or_ge x.1.length n with h3 | h3
      · exact h3
      · exfalso
        have e : x.1 = p.take n := by rw [List.prefix_iff_eq_take.1 h, show x.1.length = n by omega]
        exact hno x.2 (by rw [← e]; exact hx)
    · omega
  · simp [h]

/-- a list of keys in order, each once -/
def OrdK (M : List Key) : Prop := M.Pairwise klt
theorem ordK_ext {L M : List Key} (h1 : OrdK L) (h2 : OrdK M) (h : ∀ x, x ∈ L ↔ x ∈ M) : L = M :=
  ord_ext (fun _ => klt_irrefl _) (fun _ _ => klt_asymm) h1 h2 h
/-- one more -/
theorem insK_ok {M : List Key} (hO : OrdK M) {p : Key} {n : Nat} (h1 : ∀ x ∈ M.take n, klt x p) (h2 : ∀ x, M[n]? = some x → klt p x) :
    OrdK (M.take n ++ p :: M.drop n) ∧ ∀ x, x ∈ M.take n ++ p :: M.drop n ↔ x = p ∨ x ∈ M := by
  have hsplit := List.take_append_drop n M
  have hO2 := hO
  rw [← hsplit] at hO2
  unfold OrdK at hO2
  rw [List.pairwise_append] at hO2
  have hd : ∀ x ∈ M.drop n, klt p x := by
    intro x hx
    rcases Nat.lt_or_ge n M.length with h | h
    · rw [List.drop_eq_getElem_cons h] at hx hO2
      have e := h2 _ (List.getElem?_eq_getElem h)
      rcases List.mem_cons.1 hx with rfl | hx
      · exact e
      · exact klt_trans e ((List.pairwise_cons.1 hO2.2.1).1 x hx)
    · rw [List.drop_of_length_le h] at hx; simp at hx
  constructor
  · unfold OrdK
    rw [List.pairwise_append, List.pairwise_cons]
    refine ⟨hO2.1, ⟨hd, hO2.2.1⟩, fun x hx y hy => ?_⟩
    rcases List.mem_cons.1 hy with rfl | hy
    · exact h1 x hx
    · exact hO2.2.2 x hx y hy
  · intro x
    have hm : x ∈ M ↔ x ∈ M.take n ∨ x ∈ M.drop n := by rw [← List.mem_append, hsplit]
    rw [List.mem_append, List.mem_cons, hm]
    constructor
    · rintro (h | h | h)
      · exact .inr (.inl h)
      · exact .inl h
      · exact .inr (.inr h)
    · rintro (h | h | h)
      · exact .inr (.inl h)
      · exact .inl h
      · exact .inr (.inr h)
/-- what each two have in common, as far as the rows i and, of the next one, k -/
def comL (L : List Row) (i : Nat) : List Key := (List.range i).flatMap fun a => (List.range (a + 1)).map fun b => lcp (L.getD a ([], 0)).1 (L.getD b ([], 0)).1
def comK (L : List Row) (i k : Nat) : List Key := comL L i ++ (List.range k).map fun b => lcp (L.getD i ([], 0)).1 (L.getD b ([], 0)).1
theorem comK_zero (L : List Row) (i : Nat) : comK L i 0 = comL L i := by simp [comK]
theorem comK_succ (L : List Row) (i k : Nat) : comK L i (k + 1) = comK L i k ++ [lcp (L.getD i ([], 0)).1 (L.getD k ([], 0)).1] := by simp [comK, List.range_succ]
theorem comL_succ (L : List Row) (i : Nat) : comL L (i + 1) = comK L i (i + 1) := by simp [comK, comL, List.range_succ]
theorem comL_mem (L : List Row) (x : Key) : x ∈ comL L L.length ↔ ∃ y u z v, (y, u) ∈ L ∧ (z, v) ∈ L ∧ x = lcp y z := by
  unfold comL
  simp only [List.mem_flatMap, List.mem_range, List.mem_map]
  constructor
  · rintro ⟨a, ha, b, hb, rfl⟩
    have hb' : b < L.length := by omega
    refine ⟨(L.getD a ([], 0)).1, (L.getD a ([], 0)).2, (L.getD b ([], 0)).1, (L.getD b ([], 0)).2, ?_, ?_, rfl⟩
    · simp only [List.getD_eq_getElem?_getD, List.getElem?_eq_getElem ha, Option.getD_some]; exact List.getElem_mem ha
    · simp only [List.getD_eq_getElem?_getD, List.getElem?_eq_getElem hb', Option.getD_some]; exact List.getElem_mem hb'
  · rintro ⟨y, u, z, v, hy, hz, rfl⟩
    obtain ⟨a, ha⟩ := List.getElem?_of_mem hy
    obtain ⟨b, hb⟩ := List.getElem?_of_mem hz
    have la := (List.getElem?_eq_some_iff.1 ha).1
    have lb := (List.getElem?_eq_some_iff.1 hb).1
    have ga : (L.getD a ([], 0)).1 = y := by rw [List.getD_eq_getElem?_getD, ha]; rfl
    have gb : (L.getD b ([], 0)).1 = z := by rw [List.getD_eq_getElem?_getD, hb]; rfl
    rcases Nat.le_total a b with h | h
    · exact ⟨b, lb, a, by omega, by rw [ga, gb, lcp_comm]⟩
    · exact ⟨a, la, b, by omega, by rw [ga, gb]⟩
/-- the nodes in order are the tree's keys -/
theorem nodes_eq {t : TT} (h : t.WF) {M : List Key} (hO : OrdK M) (hm : ∀ x, x ∈ M ↔ x ∈ comL t.rows t.rows.length) : M = t.keys :=
  ordK_ext hO h.ord fun x => by rw [hm, comL_mem, TT.keys_lcp h]
end Go.Proofs.YtbacahoihkpkpaaDoor
