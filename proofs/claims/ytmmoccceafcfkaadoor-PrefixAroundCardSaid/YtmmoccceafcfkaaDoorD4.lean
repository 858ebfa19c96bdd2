/- Contract: prefix.Parse. -/
import Derived.Test.YtmmoccceafcfkaaDoorD3
import Derived.Test.YtmmoccceafcfkaaDoorM6
namespace Go.Proofs.YtmmoccceafcfkaaDoor
open Go.RowKit

/-- how far the text was read -/
inductive TS (s : ByteArray) (pos : Nat) (W : World) (R : Nat) : Prop where
  | a (h : TBox W R 0 0 false 0) (e : preF (s.data.toList.take pos) (s.data.toList.drop pos) = pfxS s.data.toList)
  | b (h : TBox W R 0 0 false 0) (c : UInt8) (hc : c ∈ s.data.toList.take pos) (h8 : 128 ≤ c.toNat) (e : pfxS s.data.toList = none)
  | c (a len dg : Int) (h : TBox W R a len true dg) (e : digF a (s.data.toList.drop pos) len dg = pfxS s.data.toList) (l0 : 0 ≤ len) (l1 : len ≤ 32) (d0 : 0 ≤ dg) (d1 : dg ≤ pos)

theorem take_at (s : ByteArray) (pos : Nat) (h : pos < s.size) : s.data.toList.take (pos + 1) = s.data.toList.take pos ++ [s[pos]] := by
  rw [List.take_succ_eq_append_getElem (by simpa using h)]
  rfl
theorem mem_take_more {l : List UInt8} {c : UInt8} {i j : Nat} (h : c ∈ l.take i) (hij : i ≤ j) : c ∈ l.take j := by
  have : l.take i = (l.take j).take i := by rw [List.take_take, Nat.min_eq_left hij]
  rw [this] at h
  exact List.mem_of_mem_take h

def StepPost (s : ByteArray) (pos : Nat) (R : Nat) (W : World) (e : Ending) (w' : World) : Prop :=
  ∃ b : Bool, e = .returned (.bool b) ∧ Only R W w' ∧ (b = true → TS s pos w' R) ∧ (b = false → pfxS s.data.toList = none)

theorem ptake_step (s : ByteArray) (pos R : Nat) (W : World) (c wd : Nat) (hp : pos < s.size) (hs : s.size ≤ 1000000000000000) (h : TS s pos W R) (hwd : 1 ≤ wd)
    (hcc : ((s[pos]'hp).toNat = c ∧ c < 128 ∧ wd = 1) ∨ (128 ≤ c ∧ 128 ≤ (s[pos]'hp).toNat)) :
    Calls Tryd.prog 74 #[.pointer (some ⟨R, 0, none⟩), .string s, .int .i64 pos, .int .i32 c] W (StepPost s (pos + wd) R W) := by
  have hd := drop_at s pos hp
  have ht := take_at s pos hp
  cases h with
  | a h e =>
    rw [hd] at e
    rcases hcc with ⟨c1, c2, rfl⟩ | ⟨c1, c2⟩
    · by_cases h47 : c = 47
      · subst h47
        unfold preF at e
        rw [if_pos (by omega)] at e
        refine (ptake_slash R s pos W h (by omega) hs).mono ?_
        rintro e' w' ⟨rfl, ho, hb⟩
        refine ⟨_, rfl, ho, fun hb2 => ?_, fun hb2 => ?_⟩
        · rw [if_pos (by simpa using hb2)] at e
          exact .c _ _ _ hb e (by omega) (by omega) (by omega) (by omega)
        · rw [if_neg (by simpa using hb2)] at e
          exact e.symm
      · unfold preF at e
        rw [if_neg (by omega), ← ht] at e
        refine (ptake_pass R s pos c W h (by omega)).mono ?_
        rintro e' w' ⟨rfl, rfl⟩
        exact ⟨_, rfl, Only.refl _ _, fun _ => .a h e, by simp⟩
    · unfold preF at e
      rw [if_neg (by omega), preF_hi _ _ s[pos] (by simp) c2] at e
      refine (ptake_pass R s pos c W h (by omega)).mono ?_
      rintro e' w' ⟨rfl, rfl⟩
      exact ⟨_, rfl, Only.refl _ _, fun _ => .b h s[pos] (mem_take_more (i := pos + 1) (by rw [ht]; simp) (by omega)) c2 e.symm, by simp⟩
  | b h d hc h8 e =>
    by_cases h47 : c = 47
    · subst h47
      refine (ptake_slash R s pos W h (by omega) hs).mono ?_
      rintro e' w' ⟨rfl, ho, hb⟩
      refine ⟨_, rfl, ho, fun hb2 => ?_, fun hb2 => e⟩
      rw [parseS_hi _ d hc h8] at hb2
      simp at hb2
    · refine (ptake_pass R s pos c W h (by omega)).mono ?_
      rintro e' w' ⟨rfl, rfl⟩
      exact ⟨_, rfl, Only.refl _ _, fun _ => .b h d (mem_take_more hc (by omega)) h8 e, by simp⟩
  | c a len dg h e l0 l1 d0 d1 =>
    rw [hd] at e
    unfold digF at e
    by_cases hdig : 48 ≤ c ∧ c ≤ 57
    · rcases hcc with ⟨c1, c2, rfl⟩ | ⟨c1, c2⟩
      · by_cases hz : 0 < dg ∧ len = 0
        · rw [if_pos (by omega)] at e
          obtain ⟨hz1, rfl⟩ := hz
          refine (ptake_no2 R s pos c a dg W h (by omega) (by omega) hz1).mono ?_
          rintro e' w' ⟨rfl, rfl⟩
          exact ⟨_, rfl, Only.refl _ _, by simp, fun _ => e.symm⟩
        · refine (ptake_dig R s pos c a len dg W h (by omega) (by omega) l0 l1 d0 (by omega) (by omega)).mono ?_
          rintro e' w' ⟨rfl, ho, hb⟩
          rw [c1] at e
          refine ⟨_, rfl, ho, fun hb2 => ?_, fun hb2 => ?_⟩
          · have hb3 := of_decide_eq_true hb2
            rw [if_neg (by omega)] at e
            exact .c _ _ _ hb e (by omega) (by omega) (by omega) (by omega)
          · have hb3 := of_decide_eq_false hb2
            rw [if_pos (by omega)] at e
            exact e.symm
      · omega
    · refine (ptake_no1 R s pos c a len dg W h (by omega)).mono ?_
      rintro e' w' ⟨rfl, rfl⟩
      refine ⟨_, rfl, Only.refl _ _, by simp, fun _ => ?_⟩
      rw [if_pos (by omega)] at e
      exact e.symm

end Go.Proofs.YtmmoccceafcfkaaDoor
