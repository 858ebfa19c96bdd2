/- Two tries in one world; prefixes that came in; what TrieHolds's rounds hold of them. -/
import Derived.Test.YtbacahoihkpkpaaDoorT27
namespace Go.Proofs.YtbacahoihkpkpaaDoor
open Go.RowKit Go.Shelf Go.Maps

/-- two tries of one's own -/
structure T2 (w0 W : World) (q : Nat) (t : TT) (r : Nat) (s : TT) : Prop where
  a : TW w0 W q t
  b : TW w0 W r s
  d : ∀ c ∈ q :: t.blocks, c ∉ r :: s.blocks
theorem T2.swap {w0 W : World} {q r : Nat} {t s : TT} (h : T2 w0 W q t r s) : T2 w0 W r s q t := ⟨h.b, h.a, fun c h1 h2 => h.d c h2 h1⟩
theorem T2.below {w0 W W' : World} {q r : Nat} {t s : TT} (h : T2 w0 W q t r s) (hb : Below W.heap.size W W') : T2 w0 W' q t r s := ⟨h.a.below hb, h.b.below hb, h.d⟩
theorem T2.went {w0 W W' : World} {q r : Nat} {t t' s : TT} (h : T2 w0 W q t r s) (g : Went W W' q t t') : T2 w0 W' q t' r s := by
  have h1 := h.a.went g
  have hlt : ∀ c ∈ r :: s.blocks, c < W.heap.size := fun c hc => by
    rcases List.mem_cons.1 hc with rfl | hc
    · exact h.b.st.lt
    · exact h.b.st.here.lt hc
  refine ⟨h1, ⟨h.b.st.of_blocks fun c hc => g.kb.block c (hlt c hc) (fun hm => h.d c hm hc), h1.rel, h1.bl, h.b.ge⟩, ?_⟩
  intro c hc hc2
  rcases List.mem_cons.1 hc with e | hc
  · exact h.d c (by rw [e]; simp) hc2
  · rcases g.new c hc with h3 | h3
    · exact h.d c (List.mem_cons_of_mem _ h3) hc2
    · have := hlt c hc2; omega
theorem T2.new {w0 W : World} {q : Nat} {t : TT} (h : TW w0 W q t) : T2 w0 (W.alloc (.cells #[.pointer none, .int .i64 0, .bool true] 84)) q t W.heap.size .nil := by
  have b := (Below.refl _ W).alloc (Nat.le_refl _) (.cells #[.pointer none, .int .i64 0, .bool true] 84)
  have h1 := h.below b
  refine ⟨h1, ⟨new_st W, h1.rel, h1.bl, fun c hc => by simp [TT.blocks] at hc; subst hc; exact h.bl.size⟩, ?_⟩
  intro c hc hc2
  simp [TT.blocks] at hc2
  subst hc2
  rcases List.mem_cons.1 hc with e | hc
  · have := h.st.lt; omega
  · have := h.st.here.lt hc; omega

/-- prefixes that came in -/
structure PIn (w : World) (base : Option Addr) (b o k : Nat) (a n : Nat → Int) : Prop where
  lt : b < w.heap.size
  is : 0 < k → base = some ⟨b, o, none⟩
  c : ∀ i, i < k → w.cell? ⟨b, o + i * 2, none⟩ = some (.int .u32 (a i)) ∧ w.cell? ⟨b, o + i * 2 + 1, none⟩ = some (.int .i64 (n i))
  bd : ∀ i, (0 ≤ a i ∧ a i < 4294967296) ∧ -9223372036854775808 ≤ n i ∧ n i ≤ 9223372036854775807
theorem PIn.below {w W : World} {base : Option Addr} {b o k : Nat} {a n : Nat → Int} (h : PIn w base b o k a n) (hb : Below w.heap.size w W) : PIn W base b o k a n :=
  ⟨Nat.lt_of_lt_of_le h.lt hb.size, h.is, fun i hi => ⟨(hb.cell (p := ⟨b, o + i * 2, none⟩) h.lt).trans (h.c i hi).1, (hb.cell (p := ⟨b, o + i * 2 + 1, none⟩) h.lt).trans (h.c i hi).2⟩, h.bd⟩

def stepP (a n v : Int) (t t' : TT) : Prop := if rightB a n = true then PutR t t' (bs a n) v else t' = t
def stepT (a n : Int) (t t' : TT) : Prop := if rightB a n = true then TakeR t t' (bs a n) else t' = t
theorem stepP_len {a n v : Int} {t t' : TT} (h : t.WF) (h' : t'.WF) (a0 : 0 ≤ a) (a1 : a < 4294967296) (hs : stepP a n v t t') : t'.rows.length ≤ t.rows.length + 1 := by
  unfold stepP at hs
  split at hs
  · rename_i hr; exact putR_len h h' (ka_bs a0 a1 hr).2.2 hs
  · rw [hs]; omega
theorem takeR_len {t t' : TT} (h : t.WF) (h' : t'.WF) {p : Key} (hr : TakeR t t' p) : t'.rows.length ≤ t.rows.length := by
  have : t'.rows = t.rows.filter (fun x => decide (x.1 ≠ p)) := by
    refine ordR_ext h'.rows (h.rows.sublist List.filter_sublist) fun ⟨x, u⟩ => ?_
    rw [hr x u, List.mem_filter]
    simp [and_comm]
  rw [this]
  exact List.length_filter_le _ _
theorem stepT_len {a n : Int} {t t' : TT} (h : t.WF) (h' : t'.WF) (hs : stepT a n t t') : t'.rows.length ≤ t.rows.length := by
  unfold stepT at hs
  split at hs
  · exact takeR_len h h' hs
  · rw [hs]; omega

theorem putA (w0 : World) (q : Nat) (t : TT) (r : Nat) (s : TT) (a n v : Int) (W : World) (h : T2 w0 W q t r s) (a0 : 0 ≤ a) (a1 : a < 4294967296) (hL : t.rows.length < 512) :
    Calls Tryd.prog 14 #[.pointer (some ⟨q, 0, none⟩), .agg #[.int .u32 a, .int .i64 n], .int .i64 v] W fun e w' => ∃ x, e = .returned x ∧ ∃ t', T2 w0 w' q t' r s ∧ stepP a n v t t' ∧ (∀ B a n, PBox W B a n → PBox w' B a n) := by
  cases hr : rightB a n with
  | false => exact (Put_arg q t a n v W h.a.st hr).mono fun e w' ⟨h1, h2⟩ => ⟨_, h1, t, h.below h2, by unfold stepP; rw [hr]; simp, fun B a n hb => hb.below h2⟩
  | true =>
    obtain ⟨e1, e2, e3⟩ := ka_bs a0 a1 hr
    have hs : ∀ t', PutR t t' (bs a n) v → stepP a n v t t' := fun t' hp => by unfold stepP; rw [if_pos hr]; exact hp
    revert hs e1 e2 e3
    generalize bs a n = p
    intro e1 e2 e3 hs
    clear hr
    subst e1 e2
    cases hg : t.get p with
    | none => exact (Put_new q t p v W h.a.st h.a.rel e3 hg hL).mono fun e w' ⟨h1, t', h2, h3⟩ => ⟨_, h1, t', h.went h2, hs t' h3, fun B a n hb => hb.went h.a.st h2⟩
    | some u => exact (Put_old q t p u v W h.a.st h.a.rel e3 hg).mono fun e w' ⟨h1, t', h2, h3⟩ => ⟨_, h1, t', h.went h2, hs t' h3, fun B a n hb => hb.went h.a.st h2⟩
theorem takeA (w0 : World) (q : Nat) (t : TT) (r : Nat) (s : TT) (a n : Int) (W : World) (h : T2 w0 W q t r s) (a0 : 0 ≤ a) (a1 : a < 4294967296) (hL : t.rows.length < 513) :
    Calls Tryd.prog 19 #[.pointer (some ⟨q, 0, none⟩), .agg #[.int .u32 a, .int .i64 n]] W fun e w' => ∃ x, e = .returned x ∧ ∃ t', T2 w0 w' q t' r s ∧ stepT a n t t' := by
  cases hr : rightB a n with
  | false => exact (Take_arg q t a n W h.a.st hr).mono fun e w' ⟨h1, h2⟩ => ⟨_, h1, t, h.below h2, by unfold stepT; rw [hr]; simp⟩
  | true =>
    obtain ⟨e1, e2, e3⟩ := ka_bs a0 a1 hr
    have hs : ∀ t', TakeR t t' (bs a n) → stepT a n t t' := fun t' hp => by unfold stepT; rw [if_pos hr]; exact hp
    revert hs e1 e2 e3
    generalize bs a n = p
    intro e1 e2 e3 hs
    clear hr
    subst e1 e2
    cases hg : t.get p with
    | none =>
      refine (Take_no q t p W h.a.st h.a.rel e3 hg).mono fun e w' ⟨h1, h2⟩ => ⟨_, h1, t, h.below h2, hs t ?_⟩
      intro x u
      refine ⟨fun hm => ⟨?_, hm⟩, fun hm => hm.2⟩
      rintro rfl
      rw [(TT.get_iff h.a.st.wf x u).2 hm] at hg
      cases hg
    | some u => exact (Take_yes q t p u W h.a.st h.a.rel e3 hg (by omega)).mono fun e w' ⟨h1, t', h2, h3⟩ => ⟨_, h1, t', h.went h2, hs t' h3⟩
/-- what Get tells of a prefix that came in -/
def getA (a n : Int) (t : TT) : Option Int := if rightB a n = true then t.get (bs a n) else none
theorem getA_any (w0 : World) (q : Nat) (t : TT) (a n : Int) (W : World) (h : TW w0 W q t) (a0 : 0 ≤ a) (a1 : a < 4294967296) :
    Calls Tryd.prog 20 #[.pointer (some ⟨q, 0, none⟩), .agg #[.int .u32 a, .int .i64 n]] W fun e w' => e = .returned (getV (getA a n t)) ∧ Below W.heap.size W w' := by
  unfold getA
  cases hr : rightB a n with
  | false => exact Get_arg q t a n W h.st hr
  | true =>
    obtain ⟨e1, e2, e3⟩ := ka_bs a0 a1 hr
    rw [if_pos rfl]
    revert e1 e2 e3
    generalize bs a n = p
    intro e1 e2 e3
    clear hr
    subst e1 e2
    exact Get_any q t p W h.st h.rel e3

/-- each prefix of the trie is one of those that came in -/
def From' (k : Nat) (a n : Nat → Int) (t : TT) : Prop := ∀ x u, (x, u) ∈ t.rows → ∃ j, j < k ∧ rightB (a j) (n j) = true ∧ bs (a j) (n j) = x
theorem From'.put {k i : Nat} {a n : Nat → Int} {v : Int} {t t' : TT} (h : From' k a n t) (hi : i < k) (hs : stepP (a i) (n i) v t t') : From' k a n t' := by
  unfold stepP at hs
  split at hs
  · rename_i hr
    intro x u hx
    rcases (hs x u).1 hx with ⟨rfl, _⟩ | ⟨_, h1⟩
    · exact ⟨i, hi, hr, rfl⟩
    · exact h x u h1
  · rw [hs]; exact h
theorem From'.take {k i : Nat} {a n : Nat → Int} {t t' : TT} (h : From' k a n t) (hs : stepT (a i) (n i) t t') : From' k a n t' := by
  unfold stepT at hs
  split at hs
  · exact fun x u hx => h x u ((hs x u).1 hx).2
  · rw [hs]; exact h
/-- what is put in the second trie, from the end on -/
def Copied (k m : Nat) (a n : Nat → Int) (t s : TT) : Prop := ∀ x u, (x, u) ∈ s.rows ↔ (x, u) ∈ t.rows ∧ ∃ j, m ≤ j ∧ j < k ∧ rightB (a j) (n j) = true ∧ bs (a j) (n j) = x
theorem Copied.start {k : Nat} {a n : Nat → Int} {t : TT} : Copied k k a n t .nil := fun x u => by
  simp only [TT.rows, List.not_mem_nil, false_iff]
  rintro ⟨_, j, h1, h2, _⟩
  omega
theorem Copied.skip {k m : Nat} {a n : Nat → Int} {t s : TT} (h : Copied k (m + 1) a n t s) (ht : t.WF) (hg : getA (a m) (n m) t = none) : Copied k m a n t s := by
  intro x u
  rw [h x u]
  constructor
  · rintro ⟨h1, j, h2, h3⟩
    exact ⟨h1, j, by omega, h3⟩
  · rintro ⟨h1, j, h2, h3, h4, h5⟩
    refine ⟨h1, j, ?_, h3, h4, h5⟩
    rcases Nat.lt_or_ge m j with h | h
    · exact h
    · obtain rfl : j = m := by omega
      unfold getA at hg
      rw [if_pos h4, h5, (TT.get_iff ht x u).2 h1] at hg
      cases hg
theorem Copied.put {k m : Nat} {a n : Nat → Int} {v : Int} {t s s' : TT} (h : Copied k (m + 1) a n t s) (hm : m < k) (ht : t.WF) (hg : getA (a m) (n m) t = some v) (hs : stepP (a m) (n m) v s s') : Copied k m a n t s' := by
  unfold getA at hg
  split at hg
  · rename_i hr
    unfold stepP at hs
    rw [if_pos hr] at hs
    have hv := (TT.get_iff ht _ _).1 hg
    intro x u
    rw [hs x u]
    constructor
    · rintro (⟨rfl, rfl⟩ | ⟨hne, h1⟩)
      · exact ⟨hv, m, Nat.le_refl _, hm, hr, rfl⟩
      · obtain ⟨h2, j, h3, h4⟩ := (h x u).1 h1
        exact ⟨h2, j, by omega, h4⟩
    · rintro ⟨h1, j, h2, h3, h4, h5⟩
      by_cases hx : x = bs (a m) (n m)
      · left
        refine ⟨hx, ?_⟩
        have e1 := (TT.get_iff ht x u).2 h1
        rw [hx, hg] at e1
        cases e1
        rfl
      · refine .inr ⟨hx, (h x u).2 ⟨h1, j, ?_, h3, h4, h5⟩⟩
        rcases Nat.lt_or_ge m j with h | h
        · exact h
        · obtain rfl : j = m := by omega
          exact absurd h5.symm hx
  · cases hg
theorem Copied.done {k : Nat} {a n : Nat → Int} {t s : TT} (h : Copied k 0 a n t s) (hF : From' k a n t) (ht : t.WF) (hs : s.WF) : t.rows = s.rows :=
  rows_ext ht hs fun x u => by
    rw [h x u]
    exact ⟨fun hm => ⟨hm, by obtain ⟨j, h1, h2, h3⟩ := hF x u hm; exact ⟨j, by omega, h1, h2, h3⟩⟩, fun hm => hm.1⟩
theorem has_key {x A : Key} (hx : x.length ≤ 32) (hA : A.length = 32) : hasB (ka x) x.length (ka A) = decide (x <+: A) := by
  rw [← ka_holds hx]
  unfold hasB holdsB
  rw [ka_right hx, hA]
  simp
  omega
end Go.Proofs.YtbacahoihkpkpaaDoor
