/- Contracts: begins of the statements of layer 1, addr.Join. -/
import Derived.Test.YtmmoccceafcfkaaDoorC4
import Derived.Test.YtmmoccceafcfkaaDoorM11
import Derived.Test.YtmmoccceafcfkaaDoorD2
import Derived.Maps.AppendAt
namespace Go.Proofs.YtmmoccceafcfkaaDoor
open Go.RowKit

theorem app_data (s : ByteArray) (l : List UInt8) : (s ++ ⟨l.toArray⟩).data.toList = s.data.toList ++ l := by
  rw [ByteArray.data_append]; simp
theorem app_size (s : ByteArray) (l : List UInt8) : (s ++ ⟨l.toArray⟩).size = s.size + l.length := by
  rw [ByteArray.size_append]; rfl

/-- none of the first k ends -/
def NoEnd (t : List UInt8) (k : Nat) : Prop := ∀ j u, j < k → ends[j]? = some u → (parseS (t ++ u)).2.2 ≠ 0
theorem NoEnd.next {t : List UInt8} {k : Nat} (u : List UInt8) (h : NoEnd t k) (hu : ends[k]? = some u) (hn : (parseS (t ++ u)).2.2 ≠ 0) : NoEnd t (k + 1) := by
  intro j v hj hv
  by_cases e : j = k
  · subst e; rw [hu] at hv; cases hv; exact hn
  · exact h j v (by omega) hv
theorem NoEnd.all {t : List UInt8} (h : NoEnd t 8) : beginsB t = false := by
  unfold beginsB
  rw [List.any_eq_false]
  intro u hu
  obtain ⟨j, hj⟩ := List.getElem?_of_mem hu
  have hlt : j < 8 := by
    have := (List.getElem?_eq_some_iff.1 hj).1
    exact this
  simpa using h j u hlt hj
theorem end_hit {t : List UInt8} (k : Nat) (u : List UInt8) (hu : ends[k]? = some u) (h : (parseS (t ++ u)).2.2 = 0) : beginsB t = true := by
  unfold beginsB
  rw [List.any_eq_true]
  exact ⟨u, List.mem_of_getElem? hu, by simpa using h⟩

set_option maxRecDepth 100000 in
set_option maxHeartbeats 4000000 in
theorem begins_any (s : ByteArray) (w : World) (hs : s.size ≤ 1000) :
    Calls Tryd.prog 51 #[.string s] w fun e w' => e = .returned (.bool (beginsB s.data.toList)) ∧ Below w.heap.size w w' := by
  go_enter Tryd.func51, Tryd.ntmps51
  go_wp2_with fail
  go_loopw [3] (fun i wr => ∃ k : Nat, k ≤ 8 ∧ i = .int .i64 k ∧ NoEnd s.data.toList k ∧ Below w.heap.size w wr) (fun i _ => (8 - intOf i).toNat)
  case atStart => exact ⟨0, by omega, rfl, fun j u hj => by omega, Below.refl _ _⟩
  case round =>
    obtain ⟨k, hk, rfl, hno, hB⟩ := hrel
    have HN := Lib.hid hno
    clear hno
    by_cases h8 : k = 8
    · subst h8
      have HF := Lib.hid HN.out.all
      go_wp2_with fail
      go_ret
      exact ⟨ret_bool HF.out.symm, hB⟩
    · obtain ⟨u, hu⟩ : ∃ u, ends[k]? = some u := ⟨_, List.getElem?_eq_getElem (show k < ends.length by show k < 8; omega)⟩
      obtain ⟨a, n, er, hp⟩ : ∃ a n er, parseS (s ++ ⟨u.toArray⟩).data.toList = (a, n, er) := ⟨_, _, _, rfl⟩
      have hul : u.length ≤ 7 := by
        have h : ∀ v ∈ ends, v.length ≤ 7 := by decide
        exact h u (List.mem_of_getElem? hu)
      have hsz := app_size s u
      have HU := Lib.hid hu
      have HP := Lib.hid hp
      have hz : (s ++ ⟨u.toArray⟩).size ≤ 1000000000000000 := by omega
      have nz : ¬ 9223372036854775807 < s.size + u.length := by omega
      have HZ := Lib.hid hz
      have HE := Lib.hid (show (parseS (s.data.toList ++ u)).2.2 = er by rw [← app_data, hp])
      clear hp hsz hz
      have hc : k = 0 ∨ k = 1 ∨ k = 2 ∨ k = 3 ∨ k = 4 ∨ k = 5 ∨ k = 6 ∨ k = 7 := by omega
      clear h8
      rcases hc with rfl | rfl | rfl | rfl | rfl | rfl | rfl | rfl
      all_goals
        obtain rfl := (Option.some.inj hu).symm
        clear hu
        go_wp2_with fail
        refine (Parse_lit _ _ a n er HZ.out HP.out).mono ?_
        rintro e w1 ⟨rfl, hb1⟩
        have hB1 := bthen (hB.alloc hB.size _) hb1
        clear hb1
        by_cases he : er = 0
        · have t1 : (er == 0) = true := by simp [he]
          have HF := Lib.hid (end_hit _ _ HU.out (by rw [HE.out]; exact he))
          clear he
          go_wp2_with (go_at_call 41; refine (num1_any _ _).mono ?_; rintro e w' ⟨rfl, rfl⟩)
          go_ret
          exact ⟨ret_bool HF.out.symm, hB1⟩
        · have t1 : (er == 0) = false := by simp [he]
          have HF := Lib.hid (HN.out.next _ HU.out (by rw [HE.out]; exact he))
          clear he
          go_wp2_with (go_at_call 41; refine (num1_any _ _).mono ?_; rintro e w' ⟨rfl, rfl⟩)
          exact ⟨⟨_, by omega, by go_num, HF.out, hB1⟩, by simp [intOf]⟩
end Go.Proofs.YtmmoccceafcfkaaDoor
