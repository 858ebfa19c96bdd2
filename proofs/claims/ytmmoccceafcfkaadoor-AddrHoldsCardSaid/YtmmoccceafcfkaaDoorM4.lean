/- Plain: what addr.Parse computes is what the reference's Parse computes. -/
import Derived.Test.YtmmoccceafcfkaaDoorM2
import Derived.Test.YtmmoccceafcfkaaDoorM3
namespace Go.Proofs.YtmmoccceafcfkaaDoor

/-- the state behind so many digits of the part that is being read -/
def Rd.at (r : Rd) (n : Int) (m : Nat) : Rd := ⟨fun i => if i = r.part then n else r.p i, r.part, m⟩

theorem Rd.at_self (r : Rd) (n : Int) (m : Nat) (h : r.p r.part = n) (hd : r.digits = m) : r = r.at n m := by
  obtain ⟨p, part, digits⟩ := r
  simp only at h hd
  subst h hd
  unfold Rd.at
  congr 1
  funext i
  by_cases e : i = part
  · subst e; simp
  · simp [e]

/-- the digits of a part -/
theorem run_digits (r : Rd) : ∀ (l : List UInt8) (n : Int) (m pos : Nat), 0 ≤ n →
    runR l pos (r.at n m) = runR (l.drop ((numS l n m).2 - m)) (pos + ((numS l n m).2 - m)) (r.at (numS l n m).1 (numS l n m).2) ∧
    (∀ c t, l.drop ((numS l n m).2 - m) = c :: t → (c : UInt8) ≠ 46 → (r.at (numS l n m).1 (numS l n m).2).step (c.toNat : Int) = none) := by
  intro l
  induction l with
  | nil => intro n m pos _; simp [numS]
  | cons c cs ih =>
    intro n m pos hn
    by_cases hd : 48 ≤ (c.toNat : Int) ∧ (c.toNat : Int) ≤ 57
    · by_cases hb : (0 < m ∧ n = 0) ∨ 255 < 10 * n + ((c.toNat : Int) - 48)
      · have e : numS (c :: cs) n m = (n, m) := by rw [numS, if_pos hd, if_pos hb]
        rw [e]
        simp only [Nat.sub_self, List.drop_zero, Nat.add_zero, true_and]
        intro c' t hc _
        cases hc
        unfold Rd.step
        rw [if_neg (by omega), if_neg]
        simp only [Rd.at, if_true]
        omega
      · have e : numS (c :: cs) n m = numS cs (10 * n + ((c.toNat : Int) - 48)) (m + 1) := by rw [numS, if_pos hd, if_neg hb]
        have hs : (r.at n m).step (c.toNat : Int) = some (r.at (10 * n + ((c.toNat : Int) - 48)) (m + 1)) := by
          unfold Rd.step
          rw [if_neg (by omega), if_pos]
          · simp only [Rd.at, if_true]
            congr 2
            · funext i
              by_cases e : i = r.part
              · simp [e]; omega
              · simp [e]
          · simp only [Rd.at, if_true]
            omega
        obtain ⟨h1, h2⟩ := ih (10 * n + ((c.toNat : Int) - 48)) (m + 1) (pos + 1) (by omega)
        have hle : m + 1 ≤ (numS cs (10 * n + ((c.toNat : Int) - 48)) (m + 1)).2 := (numS_bd cs _ (m + 1) (by omega) (by omega)).2.2.1
        rw [e]
        generalize numS cs (10 * n + ((c.toNat : Int) - 48)) (m + 1) = q at *
        have hj : q.2 - m = (q.2 - (m + 1)) + 1 := by omega
        rw [hj, List.drop_succ_cons]
        refine ⟨?_, h2⟩
        rw [runR, hs]
        rw [show pos + (q.2 - (m + 1) + 1) = pos + 1 + (q.2 - (m + 1)) by omega]
        exact h1
    · have e : numS (c :: cs) n m = (n, m) := by rw [numS, if_neg hd]
      rw [e]
      simp only [Nat.sub_self, List.drop_zero, Nat.add_zero, true_and]
      intro c' t hc h46
      cases hc
      unfold Rd.step
      rw [if_neg ?_, if_neg (by omega)]
      intro h
      exact h46 (UInt8.toNat_inj.1 (show c.toNat = (46 : UInt8).toNat by show c.toNat = 46; omega))

/-- the number that the parts ahead make -/
def Rd.pre (r : Rd) : Int := match r.part with | 0 => 0 | 1 => r.p 0 | 2 => r.p 0 * 256 + r.p 1 | _ => (r.p 0 * 256 + r.p 1) * 256 + r.p 2

def outP (s : List UInt8) (r : Int × Nat × Bool) : Int × Int × Int := if r.2.2 = false ∨ r.2.1 < s.length then (0, (r.2.1 : Int), 110) else (r.1, (r.2.1 : Int), 0)
def finP (r : Option Rd × Nat) : Int × Int × Int := match r with | (some r, n) => r.fin n | (none, n) => (0, n, 110)
def headG (s : List UInt8) (f a : Nat) (n : Int) : Int × Nat × Bool :=
  if (numS (s.drop a) 0 0).2 = 0 then (0, a, false) else headF s f false (a + (numS (s.drop a) 0 0).2) (256 * n + (numS (s.drop a) 0 0).1)
theorem headF_zero (s : List UInt8) (b : Bool) (a : Nat) (n : Int) : headF s 0 b a n = (n, a, true) := rfl
theorem headF_true (s : List UInt8) (f a : Nat) (n : Int) : headF s (f + 1) true a n = headG s f a n := by
  show (if true = false ∧ _ then _ else _) = _
  rw [if_neg (by simp)]
  rfl
theorem headF_false (s : List UInt8) (f a : Nat) (n : Int) : headF s (f + 1) false a n = if a < s.length ∧ s.getD a 0 = 46 then headG s f (a + 1) n else (0, a, false) := by
  show (if false = false ∧ ¬ (a < s.length ∧ s.getD a 0 = 46) then _ else _) = _
  by_cases h : a < s.length ∧ s.getD a 0 = 46
  · rw [if_neg (by simpa using h), if_pos h]; rfl
  · rw [if_pos ⟨rfl, h⟩, if_neg h]

theorem headF_le (s : List UInt8) : ∀ (f : Nat) (first : Bool) (a : Nat) (n : Int), a ≤ s.length → (headF s f first a n).2.1 ≤ s.length := by
  have hG : ∀ (f a : Nat) (n : Int), (∀ (a : Nat) (n : Int), a ≤ s.length → (headF s f false a n).2.1 ≤ s.length) → a ≤ s.length → (headG s f a n).2.1 ≤ s.length := by
    intro f a n ih h
    unfold headG
    split
    · exact h
    · have := (numS_bd (s.drop a) 0 0 (by omega) (by omega)).2.2.2
      exact ih _ _ (by simp at this; omega)
  intro f
  induction f with
  | zero => intro first a n h; exact h
  | succ f ih =>
    intro first a n h
    cases first
    · rw [headF_false]
      split
      · exact hG f _ n (fun a n h => ih false a n h) (by omega)
      · exact h
    · rw [headF_true]
      exact hG f a n (fun a n h => ih false a n h) h

theorem getD_drop {s : List UInt8} {a : Nat} {c : UInt8} {t : List UInt8} (h : s.drop a = c :: t) : a < s.length ∧ s.getD a 0 = c := by
  have hl : a < s.length := by
    have := congrArg List.length h
    simp at this; omega
  refine ⟨hl, ?_⟩
  have := congrArg (fun x => x[0]?) h
  simp at this
  rw [List.getD_eq_getElem?_getD, this]
  rfl

theorem parse_head (s : List UInt8) : ∀ (f a : Nat) (r : Rd), r.part + f = 3 → r.digits = 0 → (∀ i, r.part ≤ i → r.p i = 0) → a ≤ s.length →
    finP (runR (s.drop a) a r) = outP s (headG s f a r.pre) := by
  intro f
  induction f with
  | zero =>
    intro a r hf hd hpz ha
    have hp := hpz r.part (Nat.le_refl _)
    have hpart : r.part = 3 := by omega
    have hr := Rd.at_self r 0 0 hp (by simpa using hd)
    obtain ⟨h1, h2⟩ := run_digits r (s.drop a) 0 0 a (by omega)
    rw [← hr] at h1
    rw [h1]
    unfold headG
    have hle := (numS_bd (s.drop a) 0 0 (by omega) (by omega)).2.2.2
    have hz : (numS (s.drop a) 0 0).2 = 0 → (numS (s.drop a) 0 0).1 = 0 := by
      cases hl : s.drop a with
      | nil => intro _; rfl
      | cons c cs =>
        intro h0
        by_cases hdg : 48 ≤ (c.toNat : Int) ∧ (c.toNat : Int) ≤ 57
        · rw [numS, if_pos hdg, if_neg (by omega)] at h0
          have := (numS_bd cs (10 * 0 + ((c.toNat : Int) - 48)) (0 + 1) (by omega) (by omega)).2.2.1
          omega
        · rw [numS, if_neg hdg]
    generalize numS (s.drop a) 0 0 = q at *
    simp only [Nat.sub_zero, List.drop_drop] at *
    cases hl : s.drop (a + q.2) with
    | nil =>
      have hlen : s.length ≤ a + q.2 := by simpa using hl
      have hl2 : a + q.2 = s.length := by simp at hle; omega
      simp only [runR, finP]
      by_cases hq : q.2 = 0
      · rw [if_pos hq]
        unfold Rd.fin outP
        rw [if_neg (by simp [Rd.at, hq]), if_pos (Or.inl rfl)]
        simp [hq]
      · rw [if_neg hq, headF_zero]
        unfold Rd.fin outP
        rw [if_pos ⟨hpart, by simp [Rd.at]; omega⟩, if_neg (by simp; omega)]
        simp [Rd.val, Rd.at, Rd.pre, hpart]
        omega
    | cons c t =>
      obtain ⟨hlt, hg⟩ := getD_drop hl
      have hn : (r.at q.1 q.2).step (c.toNat : Int) = none := by
        by_cases h46 : c = 46
        · subst h46
          unfold Rd.step
          rw [if_pos (by decide), if_neg (by simp [Rd.at, hpart])]
        · exact h2 c t hl h46
      simp only [runR, hn, finP]
      by_cases hq : q.2 = 0
      · rw [if_pos hq]
        unfold outP
        rw [if_pos (Or.inl rfl)]
        simp [hq]
      · rw [if_neg hq, headF_zero]
        unfold outP
        rw [if_pos (Or.inr hlt)]
  | succ f ih =>
    intro a r hf hd hpz ha
    have hp := hpz r.part (Nat.le_refl _)
    have hpart : r.part < 3 := by omega
    have hr := Rd.at_self r 0 0 hp (by simpa using hd)
    obtain ⟨h1, h2⟩ := run_digits r (s.drop a) 0 0 a (by omega)
    rw [← hr] at h1
    rw [h1]
    unfold headG
    have hle := (numS_bd (s.drop a) 0 0 (by omega) (by omega)).2.2.2
    generalize numS (s.drop a) 0 0 = q at *
    simp only [Nat.sub_zero, List.drop_drop] at *
    by_cases hq : q.2 = 0
    · rw [if_pos hq]
      cases hl : s.drop (a + q.2) with
      | nil =>
        simp only [runR, finP]
        unfold Rd.fin outP
        rw [if_neg (by simp [Rd.at, hq]), if_pos (Or.inl rfl)]
        simp [hq]
      | cons c t =>
        have hn : (r.at q.1 q.2).step (c.toNat : Int) = none := by
          by_cases h46 : c = 46
          · subst h46
            unfold Rd.step
            rw [if_pos (by decide), if_neg (by simp [Rd.at, hq])]
          · exact h2 c t hl h46
        simp only [runR, hn, finP]
        unfold outP
        rw [if_pos (Or.inl rfl)]
        simp [hq]
    · rw [if_neg hq, headF_false]
      cases hl : s.drop (a + q.2) with
      | nil =>
        have hlen : s.length ≤ a + q.2 := by simpa using hl
        have hno : ¬ (a + q.2 < s.length ∧ s.getD (a + q.2) 0 = 46) := fun h => by omega
        rw [if_neg hno]
        simp only [runR, finP]
        unfold Rd.fin outP
        rw [if_neg (by simp [Rd.at]; omega), if_pos (Or.inl rfl)]
      | cons c t =>
        obtain ⟨hlt, hg⟩ := getD_drop hl
        by_cases h46 : c = 46
        · subst h46
          rw [if_pos ⟨hlt, hg⟩]
          have hs : (r.at q.1 q.2).step ((46 : UInt8).toNat : Int) = some ⟨(r.at q.1 q.2).p, r.part + 1, 0⟩ := by
            unfold Rd.step
            rw [if_pos (by decide), if_pos (by simp [Rd.at]; omega)]
            rfl
          simp only [runR, hs]
          have ht : t = s.drop (a + q.2 + 1) := by rw [← List.drop_drop, hl]; rfl
          rw [ht]
          have := ih (a + q.2 + 1) ⟨(r.at q.1 q.2).p, r.part + 1, 0⟩ (by show r.part + 1 + f = 3; omega) rfl ?_ (by omega)
          · rw [this]
            congr 2
            have hc : r.part = 0 ∨ r.part = 1 ∨ r.part = 2 := by omega
            rcases hc with e | e | e
            · simp [Rd.pre, Rd.at, e]
            · simp [Rd.pre, Rd.at, e]; omega
            · simp [Rd.pre, Rd.at, e]; omega
          · intro i hi
            have hi' : r.part + 1 ≤ i := hi
            show (if i = r.part then q.1 else r.p i) = 0
            rw [if_neg (by omega)]
            exact hpz i (by omega)
        · rw [if_neg (fun h => h46 (hg.symm.trans h.2))]
          have hn := h2 c t hl h46
          simp only [runR, hn, finP]
          unfold outP
          rw [if_pos (Or.inl rfl)]

theorem parse_ref (s : List UInt8) : parseS s = refParseS s := by
  have h := parse_head s 3 0 Rd.init rfl rfl (fun _ _ => rfl) (Nat.zero_le _)
  rw [List.drop_zero] at h
  have e1 : parseS s = finP (runR s 0 Rd.init) := by
    unfold parseS finP
    generalize runR s 0 Rd.init = q
    obtain ⟨o, n⟩ := q
    cases o <;> rfl
  rw [e1, h]
  show outP s (headG s 3 0 0) = _
  rw [← headF_true]
  rfl
end Go.Proofs.YtmmoccceafcfkaaDoor
