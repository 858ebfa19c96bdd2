/- Plain: the addresses of a joined text; where a text is wrong. -/
import Derived.Test.YtmmoccceafcfkaaDoorM10
import Derived.Lib.Join
namespace Go.Proofs.YtmmoccceafcfkaaDoor

def joinS : List Int → List UInt8
  | [] => []
  | [a] => textS a
  | a :: b :: r => textS a ++ 32 :: joinS (b :: r)
theorem join_eq (l : List Int) : Lib.join (l.map textS) [32] = joinS l := by
  induction l with
  | nil => rfl
  | cons a r ih =>
    cases r with
    | nil => simp [Lib.join_one, joinS]
    | cons b r =>
      rw [joinS, ← ih]
      simp only [List.map_cons, Lib.join_cons, Lib.joinTail, List.flatten_cons]
      simp
theorem parse_nil : (parseS []).2.2 ≠ 0 := by decide

theorem each_join (s : List UInt8) : ∀ (l : List Int) (f k : Nat), k ≤ s.length → s.length < f + k → s.drop k = joinS l → (∀ a ∈ l, 0 ≤ a ∧ a < 4294967296) →
    (eachL s f k).map (·.2) = l ∧ ∀ p ∈ eachL s f k, p.1 ≤ s.length := by
  intro l
  induction l with
  | nil =>
    intro f k hk hf hd _
    rw [eachL_bad s f k (by rw [hd]; show (parseS (Lib.cut [] [32]).1).2.2 ≠ 0; rw [cut_none [] (by simp)]; exact parse_nil)]
    simp
  | cons a r ih =>
    intro f k hk hf hd hb
    obtain ⟨a0, a1⟩ := hb a List.mem_cons_self
    obtain ⟨f, rfl⟩ : ∃ g, f = g + 1 := ⟨f - 1, by omega⟩
    cases r with
    | nil =>
      have hc : Lib.cut (s.drop k) [32] = (textS a, [], false) := by rw [hd]; exact cut_none _ (text_no32 a a0 a1)
      rw [eachL_last s f k a ((textS a).length : Int) (by rw [hc]; exact parse_text a a0 a1) (by rw [hc])]
      simp [hk]
    | cons b r =>
      have hd' : s.drop k = textS a ++ 32 :: joinS (b :: r) := hd
      have hc : Lib.cut (s.drop k) [32] = (textS a, joinS (b :: r), true) := by rw [hd']; exact cut_at _ _ (text_no32 a a0 a1)
      rw [eachL_more s f k a ((textS a).length : Int) (by rw [hc]; exact parse_text a a0 a1) (by rw [hc])]
      rw [hc]
      simp only
      have hl := congrArg List.length hd'
      simp only [List.length_drop, List.length_append, List.length_cons] at hl
      obtain ⟨h1, h2⟩ := ih f (k + (textS a).length + 1) (by omega) (by omega) (by
        rw [show k + (textS a).length + 1 = k + ((textS a).length + 1) by omega, ← List.drop_drop, hd', ← List.drop_drop, List.drop_left]
        rfl) (fun x hx => hb x (List.mem_cons_of_mem _ hx))
      refine ⟨by rw [List.map_cons, h1], ?_⟩
      intro p hp
      rcases List.mem_cons.1 hp with rfl | hp
      · exact hk
      · exact h2 p hp

theorem runR_append (t u : List UInt8) : ∀ (pos : Nat) (r : Rd), runR (t ++ u) pos r = match runR t pos r with
    | (some r', p) => runR u p r'
    | (none, p) => (none, p) := by
  induction t with
  | nil => intro pos r; rfl
  | cons c t ih =>
    intro pos r
    have e1 : runR (c :: (t ++ u)) pos r = match r.step (c.toNat : Int) with | none => (none, pos) | some r' => runR (t ++ u) (pos + 1) r' := rfl
    have e2 : runR (c :: t) pos r = match r.step (c.toNat : Int) with | none => (none, pos) | some r' => runR t (pos + 1) r' := rfl
    show runR (c :: (t ++ u)) pos r = _
    rw [e1, e2]
    cases r.step (c.toNat : Int) with
    | none => rfl
    | some r' => exact ih _ _
theorem runR_some (t : List UInt8) : ∀ (pos n : Nat) (r r' : Rd), runR t pos r = (some r', n) → n = pos + t.length := by
  induction t with
  | nil => intro pos n r r' h; simp [runR] at h; simp [h.2]
  | cons c t ih =>
    intro pos n r r' h
    unfold runR at h
    cases hs : r.step (c.toNat : Int) with
    | none => rw [hs] at h; simp at h
    | some r2 => rw [hs] at h; have := ih _ _ _ _ h; simp; omega
theorem runR_none (t : List UInt8) : ∀ (pos n : Nat) (r : Rd), runR t pos r = (none, n) → ∃ u c v r', t = u ++ c :: v ∧ n = pos + u.length ∧ runR u pos r = (some r', n) ∧ r'.step (c.toNat : Int) = none := by
  induction t with
  | nil => intro pos n r h; simp [runR] at h
  | cons c t ih =>
    intro pos n r h
    unfold runR at h
    cases hs : r.step (c.toNat : Int) with
    | none =>
      rw [hs] at h
      simp at h
      exact ⟨[], c, t, r, rfl, by simp [h], by simp [runR, h], hs⟩
    | some r2 =>
      rw [hs] at h
      obtain ⟨u, d, v, r', h1, h2, h3, h4⟩ := ih _ _ _ h
      refine ⟨c :: u, d, v, r', by rw [h1]; rfl, by simp; omega, ?_, h4⟩
      unfold runR
      rw [hs]
      exact h3

structure Rd.Fresh (r : Rd) : Prop where
  part : r.part ≤ 3
  d0 : 0 ≤ r.digits
  ahead : ∀ i, r.part < i → r.p i = 0
  here : r.digits = 0 → r.p r.part = 0
theorem Rd.init_fresh : Rd.init.Fresh := ⟨by simp [Rd.init], by simp [Rd.init], fun _ _ => rfl, fun _ => rfl⟩
theorem Rd.step_fresh {r r' : Rd} {c : Int} (h : r.Fresh) (e : r.step c = some r') : r'.Fresh := by
  unfold Rd.step at e
  split at e
  · split at e
    · rename_i h2
      cases e
      refine ⟨by show r.part + 1 ≤ 3; omega, by show (0 : Int) ≤ 0; omega, fun i hi => h.ahead i ?_, fun _ => h.ahead _ ?_⟩
      · have : r.part + 1 < i := hi
        omega
      · show r.part < r.part + 1; omega
    · cases e
  · split at e
    · rename_i h2
      cases e
      have := h.d0
      refine ⟨h.part, by show 0 ≤ r.digits + 1; omega, fun i hi => ?_, fun hd => ?_⟩
      · have hi' : r.part < i := hi
        show (if i = r.part then _ else r.p i) = 0
        rw [if_neg (by omega)]
        exact h.ahead i hi'
      · have : r.digits + 1 = 0 := hd
        omega
    · cases e
theorem runR_fresh (t : List UInt8) : ∀ (pos n : Nat) (r r' : Rd), r.Fresh → runR t pos r = (some r', n) → r'.Fresh := by
  induction t with
  | nil => intro pos n r r' hf h; simp [runR] at h; rw [← h.1]; exact hf
  | cons c t ih =>
    intro pos n r r' hf h
    unfold runR at h
    cases hs : r.step (c.toNat : Int) with
    | none => rw [hs] at h; simp at h
    | some r2 => rw [hs] at h; exact ih _ _ _ _ (Rd.step_fresh hf hs) h

def endsD : Nat → List UInt8
  | 0 => []
  | j + 1 => 46 :: 48 :: endsD j
theorem step_zero (r : Rd) (h : r.Fresh) (hd : r.digits = 0) : ∃ r', r.step ((48 : UInt8).toNat : Int) = some r' ∧ r'.part = r.part ∧ r'.digits = 1 := by
  have hz := h.here hd
  have e : r.step ((48 : UInt8).toNat : Int) = some ⟨fun i => if i = r.part then r.p r.part * 10 + (((48 : UInt8).toNat : Int) - 48) else r.p i, r.part, r.digits + 1⟩ := by
    unfold Rd.step; rw [if_neg (by decide), if_pos ⟨by decide, by decide, .inl hd, by rw [hz]; decide⟩]
  exact ⟨_, e, rfl, by show r.digits + 1 = 1; omega⟩
theorem step_dot (r : Rd) (hd : 0 < r.digits) (hp : r.part < 3) : ∃ r', r.step ((46 : UInt8).toNat : Int) = some r' ∧ r'.part = r.part + 1 ∧ r'.digits = 0 :=
  ⟨_, by unfold Rd.step; rw [if_pos (by decide), if_pos ⟨hd, hp⟩], rfl, rfl⟩
theorem run_endsD : ∀ (j : Nat) (r : Rd) (pos : Nat), r.Fresh → 0 < r.digits → r.part + j = 3 → ∃ r' n, runR (endsD j) pos r = (some r', n) ∧ r'.part = 3 ∧ r'.digits ≠ 0 := by
  intro j
  induction j with
  | zero => intro r pos hf hd hp; exact ⟨r, pos, rfl, by omega, by omega⟩
  | succ j ih =>
    intro r pos hf hd hp
    obtain ⟨r1, s1, p1, d1⟩ := step_dot r hd (by omega)
    have f1 := Rd.step_fresh hf s1
    obtain ⟨r2, s2, p2, d2⟩ := step_zero r1 f1 d1
    have f2 := Rd.step_fresh f1 s2
    obtain ⟨r', n, h1, h2⟩ := ih r2 (pos + 1 + 1) f2 (by omega) (by omega)
    refine ⟨r', n, ?_, h2⟩
    show runR (46 :: 48 :: endsD j) pos r = _
    unfold runR
    rw [s1]
    simp only
    unfold runR
    rw [s2]
    exact h1
theorem run_endsZ (j : Nat) (r : Rd) (pos : Nat) (hf : r.Fresh) (hd : r.digits = 0) (hp : r.part + j = 3) : ∃ r' n, runR (48 :: endsD j) pos r = (some r', n) ∧ r'.part = 3 ∧ r'.digits ≠ 0 := by
  obtain ⟨r1, s1, p1, d1⟩ := step_zero r hf hd
  obtain ⟨r', n, h1, h2⟩ := run_endsD j r1 (pos + 1) (Rd.step_fresh hf s1) (by omega) (by omega)
  refine ⟨r', n, ?_, h2⟩
  unfold runR
  rw [s1]
  exact h1

/-- the ends that are tried -/
def ends : List (List UInt8) := [[], [48], [46, 48], [48, 46, 48], [46, 48, 46, 48], [48, 46, 48, 46, 48], [46, 48, 46, 48, 46, 48], [48, 46, 48, 46, 48, 46, 48]]
def beginsB (t : List UInt8) : Bool := ends.any fun u => decide ((parseS (t ++ u)).2.2 = 0)

theorem begins_of (t : List UInt8) (r : Rd) (n : Nat) (h : runR t 0 Rd.init = (some r, n)) : beginsB t = true := by
  have hf := runR_fresh t 0 n _ r Rd.init_fresh h
  have hp := hf.part
  have fin : ∀ (u : List UInt8) (r' : Rd) (m : Nat), runR u n r = (some r', m) → r'.part = 3 → r'.digits ≠ 0 → decide ((parseS (t ++ u)).2.2 = 0) = true := by
    intro u r' m h1 h2 h3
    rw [decide_eq_true_eq]
    unfold parseS
    rw [runR_append, h]
    simp only
    rw [h1]
    simp only [Rd.fin]
    rw [if_pos ⟨h2, h3⟩]
  unfold beginsB
  rw [List.any_eq_true]
  by_cases hd : r.digits = 0
  · obtain ⟨r', m, h1, h2, h3⟩ := run_endsZ (3 - r.part) r n hf hd (by omega)
    refine ⟨_, ?_, fin _ r' m h1 h2 h3⟩
    have hc : r.part = 0 ∨ r.part = 1 ∨ r.part = 2 ∨ r.part = 3 := by omega
    rcases hc with e | e | e | e <;> rw [e] <;> decide
  · have hd0 := hf.d0
    obtain ⟨r', m, h1, h2, h3⟩ := run_endsD (3 - r.part) r n hf (by omega) (by omega)
    refine ⟨_, ?_, fin _ r' m h1 h2 h3⟩
    have hc : r.part = 0 ∨ r.part = 1 ∨ r.part = 2 ∨ r.part = 3 := by omega
    rcases hc with e | e | e | e <;> rw [e] <;> decide
theorem begins_not (t : List UInt8) (c : UInt8) (r : Rd) (n : Nat) (h : runR t 0 Rd.init = (some r, n)) (hs : r.step (c.toNat : Int) = none) : beginsB (t ++ [c]) = false := by
  unfold beginsB
  rw [List.any_eq_false]
  intro u _
  rw [decide_eq_true_eq]
  unfold parseS
  have : runR (t ++ [c] ++ u) 0 Rd.init = (none, n) := by
    rw [List.append_assoc, runR_append, h]
    simp only
    show runR (c :: u) n r = _
    unfold runR
    rw [hs]
  rw [this]
  simp

/-- where a text is wrong -/
theorem parse_wrong (s : List UInt8) (h : (parseS s).2.2 ≠ 0) : ∃ n : Nat, parseS s = (0, (n : Int), 110) ∧ n ≤ s.length ∧ beginsB (s.take n) = true ∧ (n < s.length → beginsB (s.take (n + 1)) = false) := by
  obtain ⟨o, n, hr⟩ : ∃ o n, runR s 0 Rd.init = (o, n) := ⟨_, _, rfl⟩
  cases o with
  | some r =>
    have hn := runR_some s 0 n _ r hr
    rw [Nat.zero_add] at hn
    subst hn
    refine ⟨s.length, ?_, Nat.le_refl _, ?_, fun hlt => absurd hlt (Nat.lt_irrefl _)⟩
    · unfold parseS at h ⊢
      rw [hr] at h ⊢
      simp only [Rd.fin] at h ⊢
      split
      · rename_i hc; rw [if_pos hc] at h; exact absurd rfl h
      · rfl
    · rw [List.take_length]; exact begins_of s r _ hr
  | none =>
    obtain ⟨u, c, v, r, h1, h2, h3, h4⟩ := runR_none s 0 n _ hr
    rw [Nat.zero_add] at h2
    subst h2
    refine ⟨u.length, ?_, by rw [h1]; simp, ?_, fun _ => ?_⟩
    · unfold parseS; rw [hr]
    · rw [h1, List.take_left]; exact begins_of u r _ h3
    · have e : s.take (u.length + 1) = u ++ [c] := by
        rw [h1, show u ++ c :: v = (u ++ [c]) ++ v by simp, show u.length + 1 = (u ++ [c]).length by simp, List.take_left]
      rw [e]
      exact begins_not u c r _ h3 h4
theorem parse_right (s : List UInt8) (h : (parseS s).2.2 = 0) : ∃ a : Int, parseS s = (a, (s.length : Int), 0) := by
  obtain ⟨a, n, e, he⟩ : ∃ a n e, parseS s = (a, n, e) := ⟨_, _, _, rfl⟩
  rw [he] at h
  have h' : e = 0 := h
  subst h'
  obtain ⟨_, _, _, hn⟩ := text_parse s a n he
  exact ⟨a, by rw [he, hn]⟩
end Go.Proofs.YtmmoccceafcfkaaDoor
