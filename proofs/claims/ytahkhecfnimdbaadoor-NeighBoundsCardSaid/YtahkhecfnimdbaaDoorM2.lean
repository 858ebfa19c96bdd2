/- The plain law of NeighHolds. -/
import Derived.Test.YtahkhecfnimdbaaDoorK9
namespace Go.Proofs.YtahkhecfnimdbaaDoor

def base : Int := 167772160
theorem hasR_iff {T : List Rec} {f a : Int} : hasR T f a = true ↔ ∃ r ∈ T, r.face = f ∧ r.addr = a := by
  unfold hasR
  rw [List.any_eq_true]
  constructor
  · rintro ⟨r, hr, h⟩; exact ⟨r, hr, atR_iff.1 h⟩
  · rintro ⟨r, hr, h⟩; exact ⟨r, hr, atR_iff.2 h⟩
theorem getR_mem {T : List Rec} {f a : Int} (h : hasR T f a = true) : getR T f a ∈ T ∧ (getR T f a).face = f ∧ (getR T f a).addr = a := by
  unfold getR
  cases hf : T.find? (atR f a) with
  | none =>
    unfold hasR at h
    obtain ⟨r, hr, ha⟩ := List.any_eq_true.1 h
    exact absurd ha (by have := List.find?_eq_none.1 hf r hr; exact this)
  | some r => exact ⟨List.mem_of_find?_eq_some hf, atR_iff.1 (List.find?_some hf)⟩

def Apart (T : List Rec) : Prop := T.Pairwise fun r s => ¬ (r.face = s.face ∧ r.addr = s.addr)
theorem Apart.one {T : List Rec} (h : Apart T) {r s : Rec} (hr : r ∈ T) (hs : s ∈ T) (h1 : r.face = s.face) (h2 : r.addr = s.addr) : r = s := by
  induction T with
  | nil => cases hr
  | cons t T ih =>
    rw [Apart, List.pairwise_cons] at h
    rcases List.mem_cons.1 hr with e1 | hr' <;> rcases List.mem_cons.1 hs with e2 | hs'
    · rw [e1, e2]
    · exact absurd ⟨by rw [← e1]; exact h1, by rw [← e1]; exact h2⟩ (h.1 s hs')
    · exact absurd ⟨by rw [← e2]; exact h1.symm, by rw [← e2]; exact h2.symm⟩ (h.1 r hr')
    · exact ih h.2 hr' hs'

/-- how the neighbours stand beside the law's own tables -/
structure Inv (s : St) (L G : Nat → Int) (i : Nat) (now : Int) : Prop where
  nw : s.now = now
  n0 : 0 ≤ now
  n1 : now ≤ 1000 * i
  apart : Apart s.T
  keys : ∀ r ∈ s.T, ∃ F A : Nat, F < 4 ∧ A < 4 ∧ r.face = F ∧ r.addr = base + A ∧ r.last = L (F * 4 + A) ∧ r.good = G (F * 4 + A) ∧ 0 < G (F * 4 + A)
  has : ∀ F A : Nat, F < 4 → A < 4 → 0 < G (F * 4 + A) → hasR s.T F (base + A) = true
  g0 : ∀ j, j < 16 → 0 ≤ G j ∧ G j ≤ i

theorem Inv.hasR_eq {s : St} {L G : Nat → Int} {i : Nat} {now : Int} (h : Inv s L G i now) {F A : Nat} (hF : F < 4) (hA : A < 4) : hasR s.T F (base + A) = decide (0 < G (F * 4 + A)) := by
  by_cases hg : 0 < G (F * 4 + A)
  · rw [h.has F A hF hA hg]; simp [hg]
  · rw [decide_eq_false hg]
    cases hh : hasR s.T F (base + A) with
    | false => rfl
    | true =>
      obtain ⟨r, hr, e1, e2⟩ := hasR_iff.1 hh
      obtain ⟨F', A', h1, h2, h3, h4, _, _, h7⟩ := h.keys r hr
      have : F' = F := by omega
      have : A' = A := by omega
      subst F' A'
      exact absurd h7 hg
theorem Inv.get {s : St} {L G : Nat → Int} {i : Nat} {now : Int} (h : Inv s L G i now) {F A : Nat} (hF : F < 4) (hA : A < 4) (hg : 0 < G (F * 4 + A)) : (getR s.T F (base + A)).last = L (F * 4 + A) ∧ (getR s.T F (base + A)).good = G (F * 4 + A) := by
  obtain ⟨hm, e1, e2⟩ := getR_mem (h.has F A hF hA hg)
  obtain ⟨F', A', h1, h2, h3, h4, h5, h6, h7⟩ := h.keys _ hm
  have : F' = F := by omega
  have : A' = A := by omega
  subst F' A'
  exact ⟨h5, h6⟩
theorem inv0 : Inv ⟨[], 0, 0⟩ (fun _ => 0) (fun _ => 0) 0 0 where
  nw := rfl
  n0 := by omega
  n1 := by omega
  apart := List.Pairwise.nil
  keys := fun r h => absurd h (by simp)
  has := fun F A _ _ h => absurd h (by show ¬ ((0 : Int) < 0); omega)
  g0 := fun j _ => ⟨by show (0 : Int) ≤ 0; omega, by show (0 : Int) ≤ _; omega⟩

def idx (r : Rec) : Nat := r.face.toNat * 4 + (r.addr - base).toNat
theorem idx_of {r : Rec} {F A : Nat} (h1 : r.face = F) (h2 : r.addr = base + A) : idx r = F * 4 + A := by
  unfold idx
  rw [h1, h2]
  have : (base + (A : Int) - base).toNat = A := by omega
  rw [this]
  simp
theorem Inv.count {s : St} {L G : Nat → Int} {i : Nat} {now : Int} (h : Inv s L G i now) : s.T.length = ((List.range 16).filter fun j => decide (0 < G j)).length := by
  have hp : (s.T.map idx).Perm ((List.range 16).filter fun j => decide (0 < G j)) := by
    refine (List.perm_ext_iff_of_nodup ?_ ?_).2 ?_
    · rw [List.Nodup, List.pairwise_map]
      refine List.Pairwise.imp_of_mem ?_ h.apart
      intro r r' hr hr' hne e
      obtain ⟨F, A, h1, h2, h3, h4, _⟩ := h.keys r hr
      obtain ⟨F', A', h1', h2', h3', h4', _⟩ := h.keys r' hr'
      rw [idx_of h3 h4, idx_of h3' h4'] at e
      have : F = F' := by omega
      have : A = A' := by omega
      subst F' A'
      exact hne ⟨h3.trans h3'.symm, h4.trans h4'.symm⟩
    · exact List.Pairwise.filter _ List.nodup_range
    · intro j
      rw [List.mem_map, List.mem_filter, List.mem_range]
      constructor
      · rintro ⟨r, hr, rfl⟩
        obtain ⟨F, A, h1, h2, h3, h4, _, _, h7⟩ := h.keys r hr
        rw [idx_of h3 h4]
        exact ⟨by omega, by simp [h7]⟩
      · rintro ⟨hj, hg⟩
        have hg : 0 < G j := of_decide_eq_true hg
        have e : j / 4 * 4 + j % 4 = j := by omega
        have hh := h.has (j / 4) (j % 4) (by omega) (by omega) (by rw [e]; exact hg)
        obtain ⟨r, hr, e1, e2⟩ := hasR_iff.1 hh
        exact ⟨r, hr, (idx_of e1 e2).trans e⟩
  have := hp.length_eq
  rw [List.length_map] at this
  exact this
theorem Inv.len16 {s : St} {L G : Nat → Int} {i : Nat} {now : Int} (h : Inv s L G i now) : s.T.length ≤ 16 := by
  rw [h.count]
  refine Nat.le_trans (List.length_filter_le _ _) ?_
  simp

theorem argB_base {F A : Nat} (hF : F < 4) (hA : A < 4) : argB F (base + A) 0 = true := by
  rw [argB_iff]
  refine ⟨by omega, by omega, ?_, by omega⟩
  have : A = 0 ∨ A = 1 ∨ A = 2 ∨ A = 3 := by omega
  rcases this with rfl | rfl | rfl | rfl <;> rfl
theorem Inv.getG {s : St} {L G : Nat → Int} {i : Nat} {now : Int} (h : Inv s L G i now) {F A : Nat} (hF : F < 4) (hA : A < 4) : (getR s.T F (base + A)).good = G (F * 4 + A) := by
  by_cases hg : 0 < G (F * 4 + A)
  · exact (h.get hF hA hg).2
  · have h0 := (h.g0 (F * 4 + A) (by omega)).1
    have hn : hasR s.T F (base + A) = false := by rw [h.hasR_eq hF hA]; simp; omega
    rw [getR_not hn]
    show (0 : Int) = _
    omega
/-- one is heard of -/
theorem Inv.hear {s : St} {L G : Nat → Int} {i : Nat} {now : Int} (h : Inv s L G i now) {F A : Nat} (hF : F < 4) (hA : A < 4) {x : Int} (x0 : 0 ≤ x) (x1 : x ≤ 1000) (hi : i < 40) :
    (hearS s F (base + A) (now + x) 0).1 = 0 ∧ Inv (hearS s F (base + A) (now + x) 0).2 (fun j => if j = F * 4 + A then now + x else L j) (fun j => if j = F * 4 + A then G (F * 4 + A) + 1 else G j) (i + 1) (now + x) := by
  have hn0 := h.n0
  have hn1 := h.n1
  have hlen := h.len16
  have hgg := h.g0 (F * 4 + A) (by omega)
  have e : hearS s F (base + A) (now + x) 0 = (0, ⟨upR s.T (heardR s.T F (base + A) (now + x) 0), now + x, s.lost⟩) := by
    unfold hearS
    rw [argB_base hF hA, if_neg (by simp), if_neg (by rw [h.nw]; omega), if_neg (by omega)]
  rw [e]
  have eg : addC (getR s.T F (base + A)).good 1 = G (F * 4 + A) + 1 := by
    rw [h.getG hF hA]
    unfold addC
    rw [if_neg (by omega)]
  refine ⟨rfl, ?_⟩
  exact {
    nw := rfl
    n0 := by omega
    n1 := by push_cast; omega
    apart := by
      show Apart (upR _ _)
      unfold upR Apart
      rw [List.pairwise_cons]
      refine ⟨fun r hr => ?_, h.apart.filter _⟩
      have := (List.mem_filter.1 hr).2
      rintro ⟨h1, h2⟩
      simp [atR, ← h1, ← h2] at this
    keys := by
      intro r hr
      rcases List.mem_cons.1 hr with rfl | hr
      · refine ⟨F, A, hF, hA, rfl, rfl, ?_, ?_, ?_⟩
        · simp [heardR]
        · simp only [heardR, if_true]; exact eg
        · simp only [if_true]; omega
      · obtain ⟨hr1, hr2⟩ := List.mem_filter.1 hr
        obtain ⟨F', A', h1, h2, h3, h4, h5, h6, h7⟩ := h.keys r hr1
        have hne : F' * 4 + A' ≠ F * 4 + A := by
          intro e'
          have : F' = F := by omega
          have : A' = A := by omega
          subst F' A'
          simp [atR, heardR, h3, h4] at hr2
        exact ⟨F', A', h1, h2, h3, h4, by simp only [if_neg hne]; exact h5, by simp only [if_neg hne]; exact h6, by simp only [if_neg hne]; exact h7⟩
    has := by
      intro F' A' hF' hA' hg
      rw [hasR_iff]
      by_cases e' : F' * 4 + A' = F * 4 + A
      · have : F' = F := by omega
        have : A' = A := by omega
        subst F' A'
        exact ⟨_, List.mem_cons_self, rfl, rfl⟩
      · simp only [if_neg e'] at hg
        obtain ⟨r, hr, h1, h2⟩ := hasR_iff.1 (h.has F' A' hF' hA' hg)
        refine ⟨r, List.mem_cons_of_mem _ (List.mem_filter.2 ⟨hr, ?_⟩), h1, h2⟩
        cases ha : atR (heardR s.T F (base + A) (now + x) 0).face (heardR s.T F (base + A) (now + x) 0).addr r with
        | false => rfl
        | true =>
          obtain ⟨h3, h4⟩ := atR_iff.1 ha
          simp only [heardR] at h3 h4
          exact absurd (show F' * 4 + A' = F * 4 + A by omega) e'
    g0 := by
      intro j hj
      have := h.g0 j hj
      by_cases e' : j = F * 4 + A
      · simp only [if_pos e']; push_cast; omega
      · simp only [if_neg e']; push_cast; omega }

/-- some are let go -/
theorem Inv.drop {s : St} {L G : Nat → Int} {i : Nat} {now : Int} (h : Inv s L G i now) (pr : Rec → Bool) (d : Nat → Bool)
    (hd : ∀ r ∈ s.T, ∀ F A : Nat, F < 4 → A < 4 → r.face = F → r.addr = base + A → pr r = d (F * 4 + A)) :
    Inv ⟨s.T.filter fun r => !pr r, s.now, s.lost⟩ L (fun j => if d j = true then 0 else G j) (i + 1) now := by
  have hn1 := h.n1
  exact {
    nw := h.nw
    n0 := h.n0
    n1 := by push_cast; omega
    apart := h.apart.filter _
    keys := by
      intro r hr
      obtain ⟨hr1, hr2⟩ := List.mem_filter.1 hr
      obtain ⟨F, A, h1, h2, h3, h4, h5, h6, h7⟩ := h.keys r hr1
      have hn : ¬ d (F * 4 + A) = true := by rw [← hd r hr1 F A h1 h2 h3 h4]; simpa using hr2
      exact ⟨F, A, h1, h2, h3, h4, h5, by simp only [if_neg hn]; exact h6, by simp only [if_neg hn]; exact h7⟩
    has := by
      intro F A hF hA hg
      by_cases hn : d (F * 4 + A) = true
      · simp only [if_pos hn] at hg; omega
      · simp only [if_neg hn] at hg
        rw [hasR_iff]
        obtain ⟨r, hr, h1, h2⟩ := hasR_iff.1 (h.has F A hF hA hg)
        refine ⟨r, List.mem_filter.2 ⟨hr, ?_⟩, h1, h2⟩
        rw [hd r hr F A hF hA h1 h2]
        simpa using hn
    g0 := by
      intro j hj
      have := h.g0 j hj
      by_cases hn : d j = true
      · simp only [if_pos hn]; exact ⟨by omega, by push_cast; omega⟩
      · simp only [if_neg hn]; exact ⟨by omega, by push_cast; omega⟩ }
theorem Inv.forget {s : St} {L G : Nat → Int} {i : Nat} {now : Int} (h : Inv s L G i now) (F : Nat) :
    Inv ⟨forgetT F s.T, s.now, s.lost⟩ L (fun j => if decide (j / 4 = F) = true then 0 else G j) (i + 1) now := by
  refine h.drop (fun r => decide (r.face = F)) (fun j => decide (j / 4 = F)) ?_
  intro r _ F' A' hF hA h1 h2
  rw [h1]
  have : (F' * 4 + A') / 4 = F' := by omega
  rw [this]
  by_cases e : F' = F
  · simp [e]
  · have : ¬ ((F' : Int) = F) := by omega
    rw [decide_eq_false this, decide_eq_false e]
theorem Inv.since {s : St} {L G : Nat → Int} {i : Nat} {now : Int} (h : Inv s L G i now) (t : Int) :
    Inv ⟨sinceT t s.T, s.now, s.lost⟩ L (fun j => if decide (L j < t) = true then 0 else G j) (i + 1) now := by
  refine h.drop (fun r => decide (r.last < t)) (fun j => decide (L j < t)) ?_
  intro r hr F A hF hA h1 h2
  obtain ⟨F', A', h1', h2', h3, h4, h5, _⟩ := h.keys r hr
  have : F' = F := by omega
  have : A' = A := by omega
  subst F' A'
  rw [h5]
theorem Inv.idle {s : St} {L G : Nat → Int} {i : Nat} {now : Int} (h : Inv s L G i now) : Inv s L G (i + 1) now :=
  ⟨h.nw, h.n0, by have := h.n1; push_cast; omega, h.apart, h.keys, h.has, fun j hj => by have := h.g0 j hj; push_cast; omega⟩
end Go.Proofs.YtahkhecfnimdbaaDoor
