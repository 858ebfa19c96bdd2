/- Plain: the document's list of rows: put, take, above, from, its nodes. No program in sight. -/
import Derived.Test.YtbacahoihkpkpaaDoorQ2
namespace Go.Proofs.YtbacahoihkpkpaaDoor

abbrev Row := Key × Int
def LenR (L : List Row) : Prop := ∀ x ∈ L, x.1.length ≤ 32
theorem TT.WF.lenR {t : TT} (h : t.WF) : LenR t.rows := fun x hx => h.len (TT.rows_keys (v := x.2) hx)

theorem ordR_at {L : List Row} (h : TT.OrdR L) {i j : Nat} {x y : Row} (hi : L[i]? = some x) (hj : L[j]? = some y) (hij : i < j) : klt x.1 y.1 := by
  obtain ⟨hi', rfl⟩ := List.getElem?_eq_some_iff.1 hi
  obtain ⟨hj', rfl⟩ := List.getElem?_eq_some_iff.1 hj
  exact List.pairwise_iff_getElem.1 h i j hi' hj' hij
theorem ordR_one {L : List Row} (h : TT.OrdR L) {i j : Nat} {x y : Row} (hi : L[i]? = some x) (hj : L[j]? = some y) (e : x.1 = y.1) : i = j := by
  rcases Nat.lt_trichotomy i j with hlt | he | hlt
  · have := ordR_at h hi hj hlt; rw [e] at this; exact absurd this (klt_irrefl _)
  · exact he
  · have := ordR_at h hj hi hlt; rw [e] at this; exact absurd this (klt_irrefl _)
theorem ordR_mem {L : List Row} (h : TT.OrdR L) {x : Key} {u v : Int} (h1 : (x, u) ∈ L) (h2 : (x, v) ∈ L) : u = v := by
  obtain ⟨i, hi⟩ := List.getElem?_of_mem h1
  obtain ⟨j, hj⟩ := List.getElem?_of_mem h2
  have := ordR_one h hi hj rfl
  subst this
  rw [hi] at hj
  exact (Prod.ext_iff.1 (Option.some.inj hj)).2

/-- where a key stands -/
def idxR (L : List Row) (p : Key) : Option Nat := L.findIdx? (fun x => decide (x.1 = p))
theorem idxR_some {L : List Row} {p : Key} {i : Nat} (h : idxR L p = some i) : ∃ v, L[i]? = some (p, v) := by
  obtain ⟨hi, h1, _⟩ := List.findIdx?_eq_some_iff_getElem.1 h
  exact ⟨L[i].2, by rw [List.getElem?_eq_getElem hi]; simp at h1; rw [← h1]⟩
theorem idxR_none {L : List Row} {p : Key} (h : idxR L p = none) : ∀ v, (p, v) ∉ L := by
  intro v hm
  have := List.findIdx?_eq_none_iff.1 h _ hm
  simp at this
theorem idxR_of {L : List Row} (hO : TT.OrdR L) {p : Key} {i : Nat} {v : Int} (h : L[i]? = some (p, v)) : idxR L p = some i := by
  cases hx : idxR L p with
  | none => exact absurd (List.mem_of_getElem? h) (idxR_none hx v)
  | some j =>
    obtain ⟨u, hu⟩ := idxR_some hx
    rw [ordR_one hO hu h rfl]

theorem takeWhile_all {α : Type} {f : α → Bool} {L : List α} {x : α} (h : x ∈ L.takeWhile f) : f x = true := by
  induction L with
  | nil => simp at h
  | cons y L ih =>
    rw [List.takeWhile_cons] at h
    split at h
    · rcases List.mem_cons.1 h with rfl | h
      · assumption
      · exact ih h
    · simp at h
/-- how many stand ahead of a place -/
def aheadR (L : List Row) (p : Key) : Nat := (L.takeWhile fun x => decide (klt x.1 p)).length
theorem aheadR_le (L : List Row) (p : Key) : aheadR L p ≤ L.length := (List.takeWhile_prefix _).length_le
theorem take_ahead (L : List Row) (p : Key) : L.take (aheadR L p) = L.takeWhile fun x => decide (klt x.1 p) := (List.prefix_iff_eq_take.1 (List.takeWhile_prefix _)).symm
def insR (L : List Row) (p : Key) (v : Int) : List Row := L.take (aheadR L p) ++ (p, v) :: L.drop (aheadR L p)
theorem drop_ahead {L : List Row} (hO : TT.OrdR L) (p : Key) : ∀ x ∈ L.drop (aheadR L p), ¬ klt x.1 p := by
  unfold aheadR
  induction L with
  | nil => simp
  | cons y L ih =>
    unfold TT.OrdR at hO
    rw [List.pairwise_cons] at hO
    rw [List.takeWhile_cons]
    by_cases hy : klt y.1 p
    · simp only [hy, decide_true, if_true, List.length_cons, List.drop_succ_cons]
      exact ih hO.2
    · simp only [hy, decide_false, Bool.false_eq_true, if_false, List.length_nil, List.drop_zero]
      intro x hx
      rcases List.mem_cons.1 hx with rfl | hx
      · exact hy
      · exact fun h => hy (klt_trans (hO.1 x hx) h)
theorem aheadR_of {L : List Row} (hO : TT.OrdR L) {p : Key} {n : Nat} (hn : n ≤ L.length) (h1 : ∀ x ∈ L.take n, klt x.1 p) (h2 : ∀ x, L[n]? = some x → ¬ klt x.1 p) : n = aheadR L p := by
  rcases Nat.lt_trichotomy n (aheadR L p) with h | h | h
  · exfalso
    have hl := aheadR_le L p
    obtain ⟨x, hx⟩ : ∃ x, L[n]? = some x := ⟨_, List.getElem?_eq_getElem (by omega)⟩
    have : x ∈ L.take (aheadR L p) := by
      refine List.mem_of_getElem? (i := n) ?_
      rw [List.getElem?_take_of_lt h, hx]
    rw [take_ahead] at this
    have := takeWhile_all this
    exact h2 x hx (by simpa using this)
  · exact h
  · exfalso
    obtain ⟨x, hx⟩ : ∃ x, L[aheadR L p]? = some x := ⟨_, List.getElem?_eq_getElem (by omega)⟩
    have m1 : x ∈ L.take n := by
      refine List.mem_of_getElem? (i := aheadR L p) ?_
      rw [List.getElem?_take_of_lt h, hx]
    have m2 : x ∈ L.drop (aheadR L p) := by
      refine List.mem_of_getElem? (i := 0) ?_
      rw [List.getElem?_drop, Nat.add_zero, hx]
    exact drop_ahead hO p x m2 (h1 x m1)
theorem insR_ok {L : List Row} (hO : TT.OrdR L) {p : Key} (hp : p.length ≤ 32) (hno : ∀ v, (p, v) ∉ L) (v : Int) :
    TT.OrdR (insR L p v) ∧ ∀ x u, (x, u) ∈ insR L p v ↔ x = p ∧ u = v ∨ x ≠ p ∧ (x, u) ∈ L := by
  have hsplit := List.take_append_drop (aheadR L p) L
  have hO2 := hO
  rw [← hsplit] at hO2
  unfold TT.OrdR at hO2
  rw [List.pairwise_append] at hO2
  have ht : ∀ x ∈ L.take (aheadR L p), klt x.1 p := fun x hx => by
    rw [take_ahead] at hx
    simpa using takeWhile_all hx
  have hd : ∀ x ∈ L.drop (aheadR L p), klt p x.1 := fun x hx => by
    have h1 := drop_ahead hO p x hx
    have hm := List.mem_of_mem_drop hx
    refine Classical.byContradiction fun h2 => ?_
    have := klt_tri hp h2 h1
    exact hno x.2 (by rw [this]; exact hm)
  constructor
  · unfold insR TT.OrdR
    rw [List.pairwise_append, List.pairwise_cons]
    refine ⟨hO2.1, ⟨hd, hO2.2.1⟩, fun x hx y hy => ?_⟩
    rcases List.mem_cons.1 hy with rfl | hy
    · exact ht x hx
    · exact hO2.2.2 x hx y hy
  · intro x u
    unfold insR
    have hm : (x, u) ∈ L ↔ (x, u) ∈ L.take (aheadR L p) ∨ (x, u) ∈ L.drop (aheadR L p) := by
      rw [← List.mem_append, hsplit]
    rw [List.mem_append, List.mem_cons, hm]
    constructor
    · rintro (h | h | h)
      · exact .inr ⟨fun e => hno u (by rw [← e]; exact hm.2 (.inl h)), .inl h⟩
      · cases h; exact .inl ⟨rfl, rfl⟩
      · exact .inr ⟨fun e => hno u (by rw [← e]; exact hm.2 (.inr h)), .inr h⟩
    · rintro (⟨rfl, rfl⟩ | ⟨_, h | h⟩)
      · exact .inr (.inl rfl)
      · exact .inl h
      · exact .inr (.inr h)
theorem setR_ok {L : List Row} (hO : TT.OrdR L) {p : Key} {i : Nat} {w : Int} (hi : L[i]? = some (p, w)) (v : Int) :
    TT.OrdR (L.set i (p, v)) ∧ ∀ x u, (x, u) ∈ L.set i (p, v) ↔ x = p ∧ u = v ∨ x ≠ p ∧ (x, u) ∈ L := by
  obtain ⟨hl, hg⟩ := List.getElem?_eq_some_iff.1 hi
  have hmap : (L.set i (p, v)).map (·.1) = L.map (·.1) := by
    rw [List.map_set]
    refine List.ext_getElem? fun j => ?_
    rw [List.getElem?_set]
    split
    · rename_i e; subst e
      rw [if_pos (by simpa using hl), List.getElem?_map, hi]; rfl
    · rfl
  constructor
  · have h1 : (L.map (·.1)).Pairwise klt := List.pairwise_map.2 hO
    rw [← hmap] at h1
    exact List.pairwise_map.1 h1
  · intro x u
    constructor
    · intro h
      obtain ⟨j, hj⟩ := List.getElem?_of_mem h
      rw [List.getElem?_set] at hj
      by_cases hne : i = j
      · rw [if_pos hne, if_pos hl] at hj
        cases hj; exact .inl ⟨rfl, rfl⟩
      · rw [if_neg hne] at hj
        refine .inr ⟨?_, List.mem_of_getElem? hj⟩
        rintro rfl
        exact hne (ordR_one hO hi hj rfl)
    · rintro (⟨rfl, rfl⟩ | ⟨hx, h⟩)
      · exact List.mem_of_getElem? (i := i) (by rw [List.getElem?_set_self hl])
      · obtain ⟨j, hj⟩ := List.getElem?_of_mem h
        refine List.mem_of_getElem? (i := j) ?_
        rw [List.getElem?_set_ne, hj]
        rintro rfl
        rw [hi] at hj
        cases hj
        exact hx rfl
def delR (L : List Row) (i : Nat) : List Row := L.take i ++ L.drop (i + 1)
theorem delR_ok {L : List Row} (hO : TT.OrdR L) {p : Key} {i : Nat} {w : Int} (hi : L[i]? = some (p, w)) :
    TT.OrdR (delR L i) ∧ ∀ x u, (x, u) ∈ delR L i ↔ x ≠ p ∧ (x, u) ∈ L := by
  obtain ⟨hl, hg⟩ := List.getElem?_eq_some_iff.1 hi
  have hsplit : L = L.take i ++ (p, w) :: L.drop (i + 1) := by
    rw [← hg, List.getElem_cons_drop]
    exact (List.take_append_drop i L).symm
  have hO2 := hO
  rw [hsplit] at hO2
  unfold TT.OrdR at hO2
  rw [List.pairwise_append, List.pairwise_cons] at hO2
  constructor
  · unfold delR TT.OrdR
    rw [List.pairwise_append]
    exact ⟨hO2.1, hO2.2.1.2, fun x hx y hy => hO2.2.2 x hx y (List.mem_cons_of_mem _ hy)⟩
  · intro x u
    have hm : (x, u) ∈ L ↔ (x, u) ∈ L.take i ∨ (x, u) = (p, w) ∨ (x, u) ∈ L.drop (i + 1) := by
      rw [← List.mem_cons, ← List.mem_append, ← hsplit]
    unfold delR
    rw [List.mem_append, hm]
    constructor
    · rintro (h | h)
      · refine ⟨fun e => ?_, .inl h⟩
        have := hO2.2.2 _ h (p, w) (List.mem_cons_self ..)
        rw [e] at this
        exact klt_irrefl _ this
      · refine ⟨fun e => ?_, .inr (.inr h)⟩
        have := hO2.2.1.1 _ h
        rw [e] at this
        exact klt_irrefl _ this
    · rintro ⟨hx, h | h | h⟩
      · exact .inl h
      · cases h; exact absurd rfl hx
      · exact .inr h

/-- of a list in order, the rows around p that are shorter than n -/
def abvR (L : List Row) (p : Key) (n : Nat) : List Row := L.filter fun x => decide (x.1 <+: p) && decide (x.1.length < n)
theorem abvR_zero (L : List Row) (p : Key) : abvR L p 0 = [] := by simp [abvR]
theorem abvR_all (L : List Row) (p : Key) : abvR L p (p.length + 1) = L.filter fun x => decide (x.1 <+: p) := by
  unfold abvR
  refine List.filter_congr fun x _ => ?_
  by_cases h : x.1 <+: p
  · have := h.length_le
    simp [h]; omega
  · simp [h]
theorem ordR_filter {L : List Row} (h : TT.OrdR L) (f : Row → Bool) : TT.OrdR (L.filter f) := List.Pairwise.sublist (List.filter_sublist ..) h
theorem abvR_succ_some {L : List Row} (hO : TT.OrdR L) {p : Key} (hp : p.length ≤ 32) {n : Nat} (hn : n ≤ p.length) {v : Int} {i : Nat} (hi : L[i]? = some (p.take n, v)) : abvR L p (n + 1) = abvR L p n ++ [(p.take n, v)] := by
  have htl : (p.take n).length = n := by rw [List.length_take]; omega
  refine ordR_ext (ordR_filter hO _) ?_ fun x => ?_
  · unfold TT.OrdR
    rw [List.pairwise_append]
    refine ⟨ordR_filter hO _, List.pairwise_singleton _ _, fun x hx y hy => ?_⟩
    rw [List.mem_singleton] at hy
    subst hy
    unfold abvR at hx
    rw [List.mem_filter] at hx
    simp only [Bool.and_eq_true, decide_eq_true_eq] at hx
    show klt x.1 (p.take n)
    refine klt_pre (by omega) (List.prefix_of_prefix_length_le hx.2.1 (List.take_prefix _ _) (by omega)) ?_
    intro e
    have h2 := hx.2.2
    rw [e] at h2
    omega
  · unfold abvR
    rw [List.mem_append, List.mem_singleton, List.mem_filter, List.mem_filter]
    simp only [Bool.and_eq_true, decide_eq_true_eq]
    constructor
    · rintro ⟨hm, h1, h2⟩
      rcases Nat.lt_or_ge x.1.length n with h3 | h3
      · exact .inl ⟨hm, h1, h3⟩
      · right
        have e : x.1 = p.take n := by
          rw [List.prefix_iff_eq_take.1 h1, show x.1.length = n by omega]
        have := ordR_mem hO (x := x.1) (u := x.2) (v := v) hm (by rw [e]; exact List.mem_of_getElem? hi)
        exact Prod.ext e this
    · rintro (⟨hm, h1, h2⟩ | rfl)
      · exact ⟨hm, h1, by omega⟩
      · exact ⟨List.mem_of_getElem? hi, List.take_prefix _ _, by simp [htl]⟩
theorem abvR_succ_none {L : List Row} {p : Key} {n : Nat} (hno : ∀ v, (p.take n, v) ∉ L) : abvR L p (n + 1) = abvR L p n := by
  unfold abvR
  refine List.filter_congr fun x hx => ?_
  by_cases h : x.1 <+: p
  · simp only [h, decide_true, Bool.true_and, decide_eq_decide]
    constructor
    · intro h2
      rcases Nat.lt_or_ge x.1.length n with h3 | h3
      · exact h3
      · exfalso
        have e : x.1 = p.take n := by rw [List.prefix_iff_eq_take.1 h, show x.1.length = n by omega]
        exact hno x.2 (by rw [← e]; exact hx)
    · omega
  · simp [h]

/-- a list of keys in order, each once -/
def OrdK (M : List Key) : Prop := M.Pairwise klt
theorem ordK_ext {L M : List Key} (h1 : OrdK L) (h2 : OrdK M) (h : ∀ x, x ∈ L ↔ x ∈ M) : L = M :=
  ord_ext (fun _ => klt_irrefl _) (fun _ _ => klt_asymm) h1 h2 h
/-- one more -/
theorem insK_ok {M : List Key} (hO : OrdK M) {p : Key} {n : Nat} (h1 : ∀ x ∈ M.take n, klt x p) (h2 : ∀ x, M[n]? = some x → klt p x) :
    OrdK (M.take n ++ p :: M.drop n) ∧ ∀ x, x ∈ M.take n ++ p :: M.drop n ↔ x = p ∨ x ∈ M := by
  have hsplit := List.take_append_drop n M
  have hO2 := hO
  rw [← hsplit] at hO2
  unfold OrdK at hO2
  rw [List.pairwise_append] at hO2
  have hd : ∀ x ∈ M.drop n, klt p x := by
    intro x hx
    rcases Nat.lt_or_ge n M.length with h | h
    · rw [List.drop_eq_getElem_cons h] at hx hO2
      have e := h2 _ (List.getElem?_eq_getElem h)
      rcases List.mem_cons.1 hx with rfl | hx
      · exact e
      · exact klt_trans e ((List.pairwise_cons.1 hO2.2.1).1 x hx)
    · rw [List.drop_of_length_le h] at hx; simp at hx
  constructor
  · unfold OrdK
    rw [List.pairwise_append, List.pairwise_cons]
    refine ⟨hO2.1, ⟨hd, hO2.2.1⟩, fun x hx y hy => ?_⟩
    rcases List.mem_cons.1 hy with rfl | hy
    · exact h1 x hx
    · exact hO2.2.2 x hx y hy
  · intro x
    have hm : x ∈ M ↔ x ∈ M.take n ∨ x ∈ M.drop n := by rw [← List.mem_append, hsplit]
    rw [List.mem_append, List.mem_cons, hm]
    constructor
    · rintro (h | h | h)
      · exact .inr (.inl h)
      · exact .inl h
      · exact .inr (.inr h)
    · rintro (h | h | h)
      · exact .inr (.inl h)
      · exact .inl h
      · exact .inr (.inr h)
/-- what each two have in common, as far as the rows i and, of the next one, k -/
def comL (L : List Row) (i : Nat) : List Key := (List.range i).flatMap fun a => (List.range (a + 1)).map fun b => lcp (L.getD a ([], 0)).1 (L.getD b ([], 0)).1
def comK (L : List Row) (i k : Nat) : List Key := comL L i ++ (List.range k).map fun b => lcp (L.getD i ([], 0)).1 (L.getD b ([], 0)).1
theorem comK_zero (L : List Row) (i : Nat) : comK L i 0 = comL L i := by simp [comK]
theorem comK_succ (L : List Row) (i k : Nat) : comK L i (k + 1) = comK L i k ++ [lcp (L.getD i ([], 0)).1 (L.getD k ([], 0)).1] := by simp [comK, List.range_succ]
theorem comL_succ (L : List Row) (i : Nat) : comL L (i + 1) = comK L i (i + 1) := by simp [comK, comL, List.range_succ]
theorem comL_mem (L : List Row) (x : Key) : x ∈ comL L L.length ↔ ∃ y u z v, (y, u) ∈ L ∧ (z, v) ∈ L ∧ x = lcp y z := by
  unfold comL
  simp only [List.mem_flatMap, List.mem_range, List.mem_map]
  constructor
  · rintro ⟨a, ha, b, hb, rfl⟩
    have hb' : b < L.length := by omega
    refine ⟨(L.getD a ([], 0)).1, (L.getD a ([], 0)).2, (L.getD b ([], 0)).1, (L.getD b ([], 0)).2, ?_, ?_, rfl⟩
    · simp only [List.getD_eq_getElem?_getD, List.getElem?_eq_getElem ha, Option.getD_some]; exact List.getElem_mem ha
    · simp only [List.getD_eq_getElem?_getD, List.getElem?_eq_getElem hb', Option.getD_some]; exact List.getElem_mem hb'
  · rintro ⟨y, u, z, v, hy, hz, rfl⟩
    obtain ⟨a, ha⟩ := List.getElem?_of_mem hy
    obtain ⟨b, hb⟩ := List.getElem?_of_mem hz
    have la := (List.getElem?_eq_some_iff.1 ha).1
    have lb := (List.getElem?_eq_some_iff.1 hb).1
    have ga : (L.getD a ([], 0)).1 = y := by rw [List.getD_eq_getElem?_getD, ha]; rfl
    have gb : (L.getD b ([], 0)).1 = z := by rw [List.getD_eq_getElem?_getD, hb]; rfl
    rcases Nat.le_total a b with h | h
    · exact ⟨b, lb, a, by omega, by rw [ga, gb, lcp_comm]⟩
    · exact ⟨a, la, b, by omega, by rw [ga, gb]⟩
/-- the nodes in order are the tree's keys -/
theorem nodes_eq {t : TT} (h : t.WF) {M : List Key} (hO : OrdK M) (hm : ∀ x, x ∈ M ↔ x ∈ comL t.rows t.rows.length) : M = t.keys :=
  ordK_ext hO h.ord fun x => by rw [hm, comL_mem, TT.keys_lcp h]
end Go.Proofs.YtbacahoihkpkpaaDoor
