/- Plain: in which order timers were armed makes no difference; what is due now. -/
import Derived.Test.YtkigoihdmojpfaaM3
namespace Go.Proofs.Ytkigoihdmojpfaa

/-- a timer and a time that Arm takes -/
def okT (r : TR) : Bool := rightT r.kind r.addr r.len && decide (0 ≤ r.due ∧ r.due ≤ 4611686018427387904)
/-- what Arm makes of a queue -/
def armV (S : List TR) (r : TR) : List TR := if okT r then armS S r else S
theorem okT_wf {r : TR} (h : okT r = true) (a0 : 0 ≤ r.addr) (a1 : r.addr < 4294967296) : r.Wf := by
  unfold okT at h
  simp at h
  exact ⟨h.1, a0, a1, h.2.1, h.2.2⟩
theorem armS_apart {S : List TR} (h : ApartS S) (r : TR) : ApartS (armS S r) := by
  unfold armS
  refine ApartS.perm ?_ (insS_perm _ r).symm
  refine List.pairwise_cons.2 ⟨fun x hx e => wo_not x hx ⟨e.1.symm, e.2.1.symm, e.2.2.symm⟩, h.wo _ _ _⟩
theorem dueS_armS {S : List TR} (h : ApartS S) (r : TR) (k a n : Int) : dueS (armS S r) k a n = if r.kind = k ∧ r.addr = a ∧ r.len = n then (r.due, true) else dueS S k a n := by
  have hA := armS_apart h r
  have hp : (armS S r).Perm (r :: wo r.kind r.addr r.len S) := insS_perm _ r
  by_cases e : r.kind = k ∧ r.addr = a ∧ r.len = n
  · rw [if_pos e]
    obtain ⟨rfl, rfl, rfl⟩ := e
    exact dueS_some hA (hp.mem_iff.2 (by simp))
  · rw [if_neg e]
    by_cases hx : ∃ x ∈ S, x.kind = k ∧ x.addr = a ∧ x.len = n
    · obtain ⟨x, hx, rfl, rfl, rfl⟩ := hx
      rw [dueS_some h hx]
      refine dueS_some hA (hp.mem_iff.2 (List.mem_cons_of_mem _ ?_))
      unfold wo
      rw [List.mem_filter]
      refine ⟨hx, ?_⟩
      simp only [Bool.not_eq_true']
      cases hs : sameK r.kind r.addr r.len x with
      | false => rfl
      | true =>
        have := sameK_iff.1 hs
        exact absurd ⟨this.1.symm, this.2.1.symm, this.2.2.symm⟩ e
    · rw [dueS_none (fun x hx' e' => hx ⟨x, hx', e'⟩)]
      refine dueS_none (fun x hx' e' => ?_)
      rcases List.mem_cons.1 (hp.mem_iff.1 hx') with rfl | hm
      · exact e e'
      · exact hx ⟨x, (List.mem_filter.1 hm).1, e'⟩
/-- the last that may be of a timer -/
def lv : List TR → Int → Int → Int → Option Int
  | [], _, _, _ => none
  | e :: E, k, a, n => match lv E k a n with
    | some d => some d
    | none => if okT e = true ∧ (e.kind = k ∧ e.addr = a ∧ e.len = n) then some e.due else none
theorem lv_cons (e : TR) (E : List TR) (k a n : Int) : lv (e :: E) k a n = match lv E k a n with
    | some d => some d
    | none => if okT e = true ∧ (e.kind = k ∧ e.addr = a ∧ e.len = n) then some e.due else none := rfl
def lvD (o : Option Int) (z : Int × Bool) : Int × Bool := match o with
  | some d => (d, true)
  | none => z
theorem armV_apart {S : List TR} (h : ApartS S) (r : TR) : ApartS (armV S r) := by
  unfold armV
  split
  · exact armS_apart h r
  · exact h
theorem armV_ord {S : List TR} (h : OrdS S) (r : TR) : OrdS (armV S r) := by
  unfold armV
  split
  · exact armS_ord h r
  · exact h
theorem dueS_armV {S : List TR} (h : ApartS S) (r : TR) (k a n : Int) : dueS (armV S r) k a n = if okT r = true ∧ (r.kind = k ∧ r.addr = a ∧ r.len = n) then (r.due, true) else dueS S k a n := by
  unfold armV
  by_cases ho : okT r = true
  · rw [if_pos ho, dueS_armS h]
    simp [ho]
  · rw [if_neg ho, if_neg (fun e => ho e.1)]
/-- forward -/
def fwd (E : List TR) : List TR := E.foldl armV []
theorem fold_due (E : List TR) (k a n : Int) : ∀ S, ApartS S → dueS (E.foldl armV S) k a n = lvD (lv E k a n) (dueS S k a n) := by
  induction E with
  | nil => intro S _; rfl
  | cons e E ih =>
    intro S hS
    rw [List.foldl_cons, ih _ (armV_apart hS e), dueS_armV hS]
    rw [lv_cons]
    cases lv E k a n with
    | some d => rfl
    | none =>
      by_cases hc : okT e = true ∧ (e.kind = k ∧ e.addr = a ∧ e.len = n)
      · rw [if_pos hc]; simp only [if_pos hc]; rfl
      · rw [if_neg hc, if_neg hc]
theorem fwd_step (E : List TR) (i : Nat) (hi : i < E.length) : fwd (E.take (i + 1)) = armV (fwd (E.take i)) E[i] := by
  unfold fwd
  rw [List.take_succ_eq_append_getElem hi, List.foldl_append]
  rfl
theorem fwd_good (E : List TR) : OrdS (fwd E) ∧ ApartS (fwd E) := by
  have : ∀ (E S : List TR), OrdS S ∧ ApartS S → OrdS (E.foldl armV S) ∧ ApartS (E.foldl armV S) := by
    intro E
    induction E with
    | nil => intro S h; exact h
    | cons e E ih => intro S h; exact ih _ ⟨armV_ord h.1 e, armV_apart h.2 e⟩
  exact this E [] ⟨List.Pairwise.nil, List.Pairwise.nil⟩
/-- backward: what has a later time already is let be -/
def bwdStep (S : List TR) (e : TR) : List TR := if (dueS S e.kind e.addr e.len).2 then S else armV S e
def bwd : List TR → List TR
  | [] => []
  | e :: E => bwdStep (bwd E) e
theorem bwd_good (E : List TR) : OrdS (bwd E) ∧ ApartS (bwd E) := by
  induction E with
  | nil => exact ⟨List.Pairwise.nil, List.Pairwise.nil⟩
  | cons e E ih =>
    unfold bwd bwdStep
    split
    · exact ih
    · exact ⟨armV_ord ih.1 e, armV_apart ih.2 e⟩
theorem dueS_false {S : List TR} {k a n : Int} (h : (dueS S k a n).2 = false) : dueS S k a n = (0, false) := by
  unfold dueS at h ⊢
  split at h
  · cases h
  · next hn => simp
theorem bwd_due (E : List TR) (k a n : Int) : dueS (bwd E) k a n = lvD (lv E k a n) (0, false) := by
  induction E generalizing k a n with
  | nil => rfl
  | cons e E ih =>
    unfold bwd bwdStep
    rw [lv_cons]
    by_cases hh : (dueS (bwd E) e.kind e.addr e.len).2 = true
    · rw [if_pos hh, ih]
      cases hl : lv E k a n with
      | some d => rfl
      | none =>
        by_cases hc : okT e = true ∧ (e.kind = k ∧ e.addr = a ∧ e.len = n)
        · obtain ⟨_, rfl, rfl, rfl⟩ := hc
          rw [ih, hl] at hh
          simp [lvD] at hh
        · simp only [if_neg hc]
    · rw [if_neg hh, dueS_armV (bwd_good E).2, ih]
      have hf : (dueS (bwd E) e.kind e.addr e.len).2 = false := by simpa using hh
      by_cases hc : okT e = true ∧ (e.kind = k ∧ e.addr = a ∧ e.len = n)
      · rw [if_pos hc]
        have hc2 := hc
        obtain ⟨_, rfl, rfl, rfl⟩ := hc2
        rw [ih] at hf
        cases hl : lv E e.kind e.addr e.len with
        | some d => rw [hl] at hf; simp [lvD] at hf
        | none => rw [if_pos hc]; rfl
      · rw [if_neg hc]
        cases lv E k a n with
        | some d => rfl
        | none => simp only [if_neg hc]
theorem ord_ext {S T : List TR} (hS : OrdS S) (hT : OrdS T) (aS : ApartS S) (aT : ApartS T) (h : ∀ k a n, dueS S k a n = dueS T k a n) : S = T := by
  have key : ∀ {S T : List TR}, ApartS S → ApartS T → (∀ k a n, dueS S k a n = dueS T k a n) → ∀ r ∈ S, r ∈ T := by
    intro S T aS aT h r hr
    have h1 := dueS_some aS hr
    rw [h] at h1
    unfold dueS at h1
    split at h1
    · next x hx =>
      have h2 := List.mem_of_find?_eq_some hx
      have h3 := sameK_iff.1 (List.find?_some hx)
      have : x = r := TR.ext' h3.1 h3.2.1 h3.2.2 (by simpa using h1)
      rw [← this]
      exact h2
    · simp at h1
  have nd : ∀ {S : List TR}, OrdS S → S.Nodup := fun h => List.Pairwise.imp (fun {a b} hab e => by subst e; have := weakT.asym hab; rw [hab] at this; cases this) h
  refine ord_perm_eq hS hT ?_
  exact (List.perm_ext_iff_of_nodup (nd hS) (nd hT)).2 (fun r => ⟨key aS aT h r, key aT aS (fun k a n => (h k a n).symm) r⟩)
theorem fwd_bwd (E : List TR) : fwd E = bwd E :=
  ord_ext (fwd_good E).1 (bwd_good E).1 (fwd_good E).2 (bwd_good E).2 (fun k a n => by
    rw [bwd_due]
    exact fold_due E k a n [] List.Pairwise.nil)
theorem fwd_len (E : List TR) : (fwd E).length ≤ E.length := by
  have : ∀ (E S : List TR), (E.foldl armV S).length ≤ S.length + E.length := by
    intro E
    induction E with
    | nil => intro S; simp
    | cons e E ih =>
      intro S
      rw [List.foldl_cons]
      have h1 := ih (armV S e)
      have h2 : (armV S e).length ≤ S.length + 1 := by
        unfold armV
        split
        · have h1 := (insS_perm (wo e.kind e.addr e.len S) e).length_eq
          have h2 : (wo e.kind e.addr e.len S).length ≤ S.length := List.length_filter_le _ _
          unfold armS
          rw [h1]
          simp
          omega
        · omega
      simp
      omega
  have := this E []
  unfold fwd
  simpa using this
/-- what is due now -/
def dueNow (now : Int) (r : TR) : Bool := decide (r.due ≤ now)
theorem due_filter {S : List TR} (h : OrdS S) (now : Int) : S.filter (dueNow now) = S.takeWhile (dueNow now) := by
  induction S with
  | nil => rfl
  | cons x S ih =>
    have hp := List.pairwise_cons.1 h
    by_cases hx : dueNow now x = true
    · rw [List.filter_cons_of_pos hx, List.takeWhile_cons_of_pos hx, ih hp.2]
    · rw [List.filter_cons_of_neg hx, List.takeWhile_cons_of_neg hx, List.filter_eq_nil_iff]
      intro y hy
      have := hp.1 y hy
      unfold ltT at this
      unfold dueNow at hx ⊢
      simp only [decide_eq_true_eq] at this hx ⊢
      omega
end Go.Proofs.Ytkigoihdmojpfaa
