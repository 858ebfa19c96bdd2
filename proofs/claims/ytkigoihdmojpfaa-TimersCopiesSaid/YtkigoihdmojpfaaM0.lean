/- Plain: heaps in a list. -/
namespace Go.Proofs.Ytkigoihdmojpfaa

variable {α : Type}

/-- a strict order that is total up to what it cannot part -/
structure Weak (lt : α → α → Bool) : Prop where
  asym : ∀ {a b}, lt a b = true → lt b a = false
  ntr : ∀ {a b c}, lt a b = false → lt b c = false → lt a c = false

/-- two places changed -/
def swapL (L : List α) (i j : Nat) : List α :=
  match L[i]?, L[j]? with
  | some x, some y => (L.set i y).set j x
  | _, _ => L

theorem swapL_len (L : List α) (i j : Nat) : (swapL L i j).length = L.length := by
  unfold swapL
  split <;> simp
theorem swapL_get {L : List α} {i j : Nat} (hi : i < L.length) (hj : j < L.length) (k : Nat) : (swapL L i j)[k]? = if k = j then L[i]? else if k = i then L[j]? else L[k]? := by
  unfold swapL
  rw [List.getElem?_eq_getElem hi, List.getElem?_eq_getElem hj]
  simp only [List.getElem?_set, List.length_set]
  by_cases h1 : k = j
  · subst h1; simp [hj]
  · by_cases h2 : k = i
    · subst h2; simp [hi, Ne.symm h1, h1]
    · simp [Ne.symm h1, Ne.symm h2, h1, h2]
theorem set_perm_erase {L : List α} {j : Nat} (hj : j < L.length) (a : α) : (L.set j a).Perm (a :: L.eraseIdx j) := by
  induction L generalizing j with
  | nil => simp at hj
  | cons b L ih =>
    cases j with
    | zero => exact List.Perm.refl _
    | succ j =>
      simp only [List.length_cons] at hj
      exact ((ih (j := j) (by omega)).cons b).trans (List.Perm.swap _ _ _)
theorem get_cons_erase {L : List α} {j : Nat} (hj : j < L.length) : (L[j] :: L.eraseIdx j).Perm L := by
  have := (set_perm_erase hj L[j]).symm
  rwa [List.set_getElem_self] at this
theorem set_set_perm {L : List α} {i j : Nat} (hi : i < L.length) (hj : j < L.length) (hij : i ≠ j) : ((L.set i L[j]).set j L[i]).Perm L := by
  induction L generalizing i j with
  | nil => simp at hi
  | cons a L ih =>
    cases i with
    | zero =>
      cases j with
      | zero => exact absurd rfl hij
      | succ j =>
        simp only [List.length_cons] at hj
        simp only [List.set_cons_zero, List.getElem_cons_succ, List.set_cons_succ, List.getElem_cons_zero]
        have hj' : j < L.length := by omega
        have h1 : (L.set j a).Perm (a :: L.eraseIdx j) := set_perm_erase hj' a
        have h2 : (L[j] :: L.eraseIdx j).Perm L := get_cons_erase hj'
        exact ((h1.cons L[j]).trans (List.Perm.swap _ _ _)).trans (h2.cons a)
    | succ i =>
      cases j with
      | zero =>
        simp only [List.length_cons] at hi
        simp only [List.set_cons_zero, List.getElem_cons_succ, List.set_cons_succ, List.getElem_cons_zero]
        have hi' : i < L.length := by omega
        have h1 : (L.set i a).Perm (a :: L.eraseIdx i) := set_perm_erase hi' a
        have h2 : (L[i] :: L.eraseIdx i).Perm L := get_cons_erase hi'
        exact ((h1.cons L[i]).trans (List.Perm.swap _ _ _)).trans (h2.cons a)
      | succ j =>
        simp only [List.length_cons] at hi hj
        simp only [List.set_cons_succ, List.getElem_cons_succ]
        exact (ih (by omega) (by omega) (by omega)).cons a
theorem swapL_self (L : List α) (i : Nat) : swapL L i i = L := by
  unfold swapL
  cases h : L[i]? with
  | none => rfl
  | some x =>
    obtain ⟨hi, hx⟩ := List.getElem?_eq_some_iff.1 h
    subst hx
    simp
theorem swapL_perm (L : List α) (i j : Nat) : (swapL L i j).Perm L := by
  by_cases hij : i = j
  · subst hij; rw [swapL_self]
  · unfold swapL
    split
    · next x y hx hy =>
      obtain ⟨hi, rfl⟩ := List.getElem?_eq_some_iff.1 hx
      obtain ⟨hj, rfl⟩ := List.getElem?_eq_some_iff.1 hy
      exact set_set_perm hi hj hij
    · exact List.Perm.refl _

/-- what stands at a is not ahead of what stands at b -/
def NL (lt : α → α → Bool) (L : List α) (a b : Nat) : Prop := ∀ x y, L[a]? = some x → L[b]? = some y → lt x y = false
abbrev par (k : Nat) : Nat := (k - 1) / 2
/-- a heap, as far as n -/
def Hp (lt : α → α → Bool) (L : List α) (n : Nat) : Prop := ∀ k, 0 < k → k < n → NL lt L k (par k)
/-- a heap but for what i has to do with -/
def Ax (lt : α → α → Bool) (L : List α) (n i : Nat) : Prop := (∀ k, 0 < k → k < n → k ≠ i → par k ≠ i → NL lt L k (par k)) ∧ (0 < i → ∀ k, 0 < k → k < n → par k = i → NL lt L k (par i))
/-- a heap but for what i has over it -/
def Ux (lt : α → α → Bool) (L : List α) (n i : Nat) : Prop := (∀ k, 0 < k → k < n → k ≠ i → NL lt L k (par k)) ∧ (0 < i → ∀ k, 0 < k → k < n → par k = i → NL lt L k (par i))

theorem NL.trans {lt : α → α → Bool} (hw : Weak lt) {L : List α} {a b c : Nat} (h1 : NL lt L a b) (h2 : NL lt L b c) (hb : b < L.length) : NL lt L a c := fun x z hx hz =>
  hw.ntr (h1 x L[b] hx (List.getElem?_eq_getElem hb)) (h2 L[b] z (List.getElem?_eq_getElem hb) hz)
theorem irr {lt : α → α → Bool} (hw : Weak lt) (a : α) : lt a a = false := by
  cases h : lt a a with
  | false => rfl
  | true => have := hw.asym h; rw [h] at this; cases this

/-- one round of up -/
theorem Ux.up {lt : α → α → Bool} (hw : Weak lt) {L : List α} {n j : Nat} (h : Ux lt L n j) (hj0 : 0 < j) (hjn : j < n) (hn : n ≤ L.length) {x y : α} (hx : L[j]? = some x) (hy : L[par j]? = some y) (hl : lt x y = true) : Ux lt (swapL L (par j) j) n (par j) := by
  have hjl : j < L.length := by omega
  have hil : par j < L.length := by simp only [par]; omega
  have hne : par j ≠ j := by simp only [par]; omega
  have hg := swapL_get hil hjl
  have ha := hw.asym hl
  refine ⟨fun k hk0 hkn hki u v hu hv => ?_, fun hi0 k hk0 hkn hkp u v hu hv => ?_⟩
  · rw [hg] at hu hv
    by_cases e1 : k = j
    · subst e1
      rw [if_pos rfl] at hu
      rw [if_neg hne, if_pos rfl] at hv
      rw [hy] at hu
      rw [hx] at hv
      cases hu; cases hv
      exact ha
    · rw [if_neg e1, if_neg hki] at hu
      by_cases e2 : par k = j
      · rw [if_pos e2] at hv
        rw [hy] at hv
        cases hv
        exact h.2 hj0 k hk0 hkn e2 u y hu hy
      · rw [if_neg e2] at hv
        by_cases e3 : par k = par j
        · rw [if_pos e3, hx] at hv
          cases hv
          exact hw.ntr (h.1 k hk0 hkn e1 u y hu (by rw [e3]; exact hy)) ha
        · rw [if_neg e3] at hv
          exact h.1 k hk0 hkn e1 u v hu hv
  · rw [hg] at hu hv
    have hpp : par (par j) ≠ j := by simp only [par] at *; omega
    have hpp2 : par (par j) ≠ par j := by simp only [par] at *; omega
    rw [if_neg hpp, if_neg hpp2] at hv
    have hpar := h.1 (par j) hi0 (by simp only [par]; omega) hne
    by_cases e1 : k = j
    · rw [if_pos e1, hy] at hu
      cases hu
      exact hpar y v hy hv
    · rw [if_neg e1] at hu
      by_cases e2 : k = par j
      · exfalso; simp only [par] at *; omega
      · rw [if_neg e2] at hu
        exact hw.ntr (h.1 k hk0 hkn e1 u y hu (by rw [hkp]; exact hy)) (hpar y v hy hv)
/-- where up ends -/
theorem Ux.done {lt : α → α → Bool} {L : List α} {n j : Nat} (h : Ux lt L n j) (hd : j = 0 ∨ NL lt L j (par j)) : Hp lt L n := fun k hk0 hkn => by
  by_cases e : k = j
  · subst e
    rcases hd with h0 | h0
    · omega
    · exact h0
  · exact h.1 k hk0 hkn e

/-- one round of down: j is the lesser child of i -/
theorem Ax.down {lt : α → α → Bool} (hw : Weak lt) {L : List α} {n i j : Nat} (h : Ax lt L n i) (hj0 : 0 < j) (hjn : j < n) (hji : par j = i) (hn : n ≤ L.length) {x y : α} (hx : L[j]? = some x) (hy : L[i]? = some y) (hl : lt x y = true)
    (hmin : ∀ k, 0 < k → k < n → par k = i → NL lt L k j) : Ax lt (swapL L i j) n j ∧ NL lt (swapL L i j) j i ∧ (0 < i → NL lt (swapL L i j) i (par i)) ∧ (∀ k, 0 < k → k < n → k ≠ j → par k = i → NL lt (swapL L i j) k i) := by
  have hjl : j < L.length := by omega
  have hil : i < L.length := by simp only [par] at hji; omega
  have hne : i ≠ j := by simp only [par] at hji; omega
  have hg := swapL_get hil hjl
  have ha := hw.asym hl
  have hij : i < j := by simp only [par] at hji; omega
  refine ⟨⟨fun k hk0 hkn hkj hkp u v hu hv => ?_, fun _ k hk0 hkn hkp u v hu hv => ?_⟩, fun u v hu hv => ?_, fun hi0 u v hu hv => ?_, fun k hk0 hkn hkj hkp u v hu hv => ?_⟩
  · rw [hg] at hu hv
    rw [if_neg hkj] at hu
    rw [if_neg hkp] at hv
    by_cases e1 : k = i
    · rw [if_pos e1, hx] at hu
      cases hu
      have e2 : par k ≠ i := by rw [e1]; simp only [par]; omega
      rw [if_neg e2] at hv
      subst e1
      exact h.2 hk0 j hj0 hjn hji x v hx hv
    · rw [if_neg e1] at hu
      by_cases e2 : par k = i
      · rw [if_pos e2, hx] at hv
        cases hv
        exact hmin k hk0 hkn e2 u x hu hx
      · rw [if_neg e2] at hv
        exact h.1 k hk0 hkn e1 e2 u v hu hv
  · rw [hg] at hu hv
    have e1 : k ≠ j := by simp only [par] at hkp; omega
    have e2 : k ≠ i := by simp only [par] at hkp; omega
    rw [if_neg e1, if_neg e2] at hu
    rw [hji, if_neg hne, if_pos rfl, hx] at hv
    cases hv
    have := h.1 k hk0 hkn e2 (by rw [hkp]; exact hne.symm)
    rw [hkp] at this
    exact this u x hu hx
  · rw [hg] at hu hv
    rw [if_pos rfl, hy] at hu
    rw [if_neg hne, if_pos rfl, hx] at hv
    cases hu; cases hv
    exact ha
  · rw [hg] at hu hv
    rw [if_neg hne, if_pos rfl, hx] at hu
    have e2 : par i ≠ i := by simp only [par]; omega
    have e3 : par i ≠ j := by simp only [par]; omega
    rw [if_neg e3, if_neg e2] at hv
    cases hu
    exact h.2 hi0 j hj0 hjn hji x v hx hv
  · rw [hg] at hu hv
    have e2 : k ≠ i := by simp only [par] at hkp; omega
    rw [if_neg hkj, if_neg e2] at hu
    rw [if_neg hne, if_pos rfl, hx] at hv
    cases hv
    exact hmin k hk0 hkn hkp u x hu hx
/-- the top of a heap is ahead of all -/
theorem Hp.top {lt : α → α → Bool} (hw : Weak lt) {L : List α} {n : Nat} (h : Hp lt L n) (hn : n ≤ L.length) : ∀ k, k < n → NL lt L k 0 := by
  intro k
  induction k using Nat.strongRecOn with
  | ind k ih =>
    intro hk
    by_cases h0 : k = 0
    · subst h0
      intro x y hx hy
      rw [hx] at hy
      cases hy
      exact irr hw x
    · exact (h k (by omega) hk).trans hw (ih (par k) (by simp only [par]; omega) (by simp only [par]; omega)) (by simp only [par]; omega)
theorem Hp.ax_set {lt : α → α → Bool} (hw : Weak lt) {L : List α} {n i : Nat} (h : Hp lt L n) (hn : n ≤ L.length) (hi : i < n) (r : α) : Ax lt (L.set i r) n i := by
  refine ⟨fun k hk0 hkn hki hkp u v hu hv => ?_, fun hi0 k hk0 hkn hkp u v hu hv => ?_⟩
  · rw [List.getElem?_set_ne (Ne.symm hki)] at hu
    rw [List.getElem?_set_ne (Ne.symm hkp)] at hv
    exact h k hk0 hkn u v hu hv
  · have e1 : k ≠ i := by simp only [par] at hkp; omega
    have e2 : par i ≠ i := by simp only [par]; omega
    rw [List.getElem?_set_ne (Ne.symm e1)] at hu
    rw [List.getElem?_set_ne (Ne.symm e2)] at hv
    have h1 := h k hk0 hkn
    rw [hkp] at h1
    exact h1.trans hw (h i hi0 hi) (by omega) u v hu hv
theorem Hp.ax_swap {lt : α → α → Bool} (hw : Weak lt) {L : List α} {n i : Nat} (h : Hp lt L (n + 1)) (hn : n + 1 ≤ L.length) (hi : i < n) : Ax lt (swapL L i n) n i := by
  have hg := swapL_get (L := L) (i := i) (j := n) (by omega) (by omega)
  refine ⟨fun k hk0 hkn hki hkp u v hu hv => ?_, fun hi0 k hk0 hkn hkp u v hu hv => ?_⟩
  · rw [hg, if_neg (by omega), if_neg hki] at hu
    rw [hg, if_neg (by simp only [par]; omega), if_neg hkp] at hv
    exact h k hk0 (by omega) u v hu hv
  · have e1 : k ≠ i := by simp only [par] at hkp; omega
    have e2 : par i ≠ i := by simp only [par]; omega
    rw [hg, if_neg (by omega), if_neg e1] at hu
    rw [hg, if_neg (by simp only [par]; omega), if_neg e2] at hv
    have h1 := h k hk0 (by omega)
    rw [hkp] at h1
    exact h1.trans hw (h i hi0 (by omega)) (by omega) u v hu hv
theorem Hp.ux_push {lt : α → α → Bool} {L : List α} {r : α} (h : Hp lt L L.length) : Ux lt (L ++ [r]) (L.length + 1) L.length := by
  refine ⟨fun k hk0 hkn hki u v hu hv => ?_, fun hi0 k hk0 hkn hkp => by simp only [par] at hkp; omega⟩
  rw [List.getElem?_append_left (by omega)] at hu
  rw [List.getElem?_append_left (by simp only [par]; omega)] at hv
  exact h k hk0 (by omega) u v hu hv
theorem Hp.take {lt : α → α → Bool} {L : List α} {n : Nat} (h : Hp lt L n) (_hn : n ≤ L.length) : Hp lt (L.take n) (L.take n).length := by
  intro k hk0 hkn u v hu hv
  rw [List.length_take] at hkn
  rw [List.getElem?_take_of_lt (by omega)] at hu
  rw [List.getElem?_take_of_lt (by simp only [par]; omega)] at hv
  exact h k hk0 (by omega) u v hu hv
/-- where down ends -/
theorem Ax.stay {lt : α → α → Bool} {L : List α} {n i : Nat} (h : Ax lt L n i) (hc : ∀ k, 0 < k → k < n → par k = i → NL lt L k i) : Ux lt L n i :=
  ⟨fun k hk0 hkn hki => by
    by_cases e : par k = i
    · rw [e]; exact hc k hk0 hkn e
    · exact h.1 k hk0 hkn hki e, h.2⟩

structure TR where
  kind : Int
  addr : Int
  len : Int
  due : Int
theorem TR.ext' {a b : TR} (h1 : a.kind = b.kind) (h2 : a.addr = b.addr) (h3 : a.len = b.len) (h4 : a.due = b.due) : a = b := by
  obtain ⟨_, _, _, _⟩ := a
  obtain ⟨_, _, _, _⟩ := b
  simp at *
  exact ⟨h1, h2, h3, h4⟩
def ltT (a b : TR) : Bool := decide (a.due < b.due ∨ a.due = b.due ∧ (a.kind < b.kind ∨ a.kind = b.kind ∧ (a.addr < b.addr ∨ a.addr = b.addr ∧ a.len < b.len)))
theorem weakT : Weak ltT := by
  constructor
  · intro a b h
    simp only [ltT, decide_eq_true_eq, decide_eq_false_iff_not] at *
    omega
  · intro a b c h1 h2
    simp only [ltT, decide_eq_false_iff_not] at *
    omega
theorem ltT_tri {a b : TR} (h1 : ltT a b = false) (h2 : ltT b a = false) : a = b := by
  simp only [ltT, decide_eq_false_iff_not] at *
  exact TR.ext' (by omega) (by omega) (by omega) (by omega)
theorem ltT_trans {a b c : TR} (h1 : ltT a b = true) (h2 : ltT b c = true) : ltT a c = true := by
  simp only [ltT, decide_eq_true_eq] at *
  omega
/-- one timer? -/
def sameK (k a l : Int) (r : TR) : Bool := r.kind == k && (r.addr == a && r.len == l)
theorem sameK_iff {k a l : Int} {r : TR} : sameK k a l r = true ↔ r.kind = k ∧ r.addr = a ∧ r.len = l := by simp [sameK]
def OrdS (S : List TR) : Prop := S.Pairwise (fun a b => ltT a b = true)
def ApartS (S : List TR) : Prop := S.Pairwise (fun a b => ¬ (a.kind = b.kind ∧ a.addr = b.addr ∧ a.len = b.len))
theorem ord_perm_eq {S T : List TR} (h1 : OrdS S) (h2 : OrdS T) (hp : S.Perm T) : S = T :=
  hp.eq_of_pairwise (fun _ _ _ _ hab hba => by have := weakT.asym hab; rw [hba] at this; cases this) h1 h2
theorem ApartS.perm {S T : List TR} (h : ApartS S) (hp : S.Perm T) : ApartS T := (hp.pairwise_iff (fun {_a _b} hab e => hab ⟨e.1.symm, e.2.1.symm, e.2.2.symm⟩)).1 h
/-- without a timer -/
def wo (k a l : Int) (S : List TR) : List TR := S.filter (fun r => !sameK k a l r)
theorem OrdS.wo {S : List TR} (h : OrdS S) (k a l : Int) : OrdS (wo k a l S) := List.Pairwise.filter _ h
theorem ApartS.wo {S : List TR} (h : ApartS S) (k a l : Int) : ApartS (wo k a l S) := List.Pairwise.filter _ h
/-- how many stand ahead -/
def aheadS (S : List TR) (r : TR) : Nat := (S.takeWhile (fun x => ltT x r)).length
def insS (S : List TR) (r : TR) : List TR := S.take (aheadS S r) ++ r :: S.drop (aheadS S r)
theorem insS_cons (q r : TR) (S : List TR) : insS (q :: S) r = if ltT q r then q :: insS S r else r :: q :: S := by
  unfold insS aheadS
  by_cases h : ltT q r = true
  · rw [List.takeWhile_cons_of_pos (by simpa using h), if_pos h]; simp
  · rw [List.takeWhile_cons_of_neg (by simpa using h), if_neg h]; simp
theorem insS_perm (S : List TR) (r : TR) : (insS S r).Perm (r :: S) := by
  induction S with
  | nil => exact List.Perm.refl _
  | cons q S ih =>
    rw [insS_cons]
    split
    · exact (List.Perm.cons q ih).trans (List.Perm.swap r q S)
    · exact List.Perm.refl _
theorem insS_ord {S : List TR} {r : TR} (h : OrdS S) (hn : ∀ q ∈ S, q ≠ r) : OrdS (insS S r) := by
  induction S with
  | nil => exact List.pairwise_singleton _ _
  | cons q S ih =>
    unfold OrdS at h
    rw [List.pairwise_cons] at h
    rw [insS_cons]
    split
    · next hl =>
      unfold OrdS
      rw [List.pairwise_cons]
      refine ⟨fun s hs => ?_, ih h.2 (fun q hq => hn q (List.mem_cons_of_mem _ hq))⟩
      rcases List.mem_cons.1 ((insS_perm S r).mem_iff.1 hs) with rfl | hs
      · exact hl
      · exact h.1 s hs
    · next hl =>
      have hlt : ltT r q = true := by
        cases hc : ltT r q with
        | true => rfl
        | false => exact absurd (ltT_tri (by simpa using hl) hc) (hn q (by simp))
      unfold OrdS
      rw [List.pairwise_cons]
      refine ⟨fun s hs => ?_, List.pairwise_cons.2 h⟩
      rcases List.mem_cons.1 hs with rfl | hs
      · exact hlt
      · exact ltT_trans hlt (h.1 s hs)
theorem wo_not {k a l : Int} {S : List TR} : ∀ q ∈ wo k a l S, ¬ (q.kind = k ∧ q.addr = a ∧ q.len = l) := fun q hq e => by
  have := (List.mem_filter.1 hq).2
  rw [sameK_iff.2 e] at this
  cases this
/-- without one that stands at a place of another list of the same -/
theorem wo_perm {L S : List TR} {i : Nat} {r : TR} (hp : L.Perm S) (hA : ApartS S) (hi : L[i]? = some r) : (L.eraseIdx i).Perm (wo r.kind r.addr r.len S) := by
  obtain ⟨hl, he⟩ := List.getElem?_eq_some_iff.1 hi
  subst he
  have h1 : (L[i] :: L.eraseIdx i).Perm L := get_cons_erase hl
  have hA2 : ApartS (L[i] :: L.eraseIdx i) := hA.perm (h1.trans hp).symm
  have h2 := (h1.trans hp).filter (fun q => !sameK L[i].kind L[i].addr L[i].len q)
  rw [List.filter_cons_of_neg (by rw [sameK_iff.2 ⟨rfl, rfl, rfl⟩]; simp)] at h2
  rw [List.filter_eq_self.2 (fun q hq => by
    have := (List.pairwise_cons.1 hA2).1 q hq
    cases hc : sameK L[i].kind L[i].addr L[i].len q with
    | false => rfl
    | true =>
      obtain ⟨a, b, c⟩ := sameK_iff.1 hc
      exact absurd ⟨a.symm, b.symm, c.symm⟩ this)] at h2
  exact h2
end Go.Proofs.Ytkigoihdmojpfaa
