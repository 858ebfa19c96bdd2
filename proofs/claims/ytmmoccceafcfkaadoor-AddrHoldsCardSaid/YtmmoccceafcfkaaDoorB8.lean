/- Contract of the reference's Parse (layer 1). -/
import Derived.Test.YtmmoccceafcfkaaDoorB7
import Derived.Test.YtmmoccceafcfkaaDoorM4
namespace Go.Proofs.YtmmoccceafcfkaaDoor
open Go.RowKit

def RParsePost (s : ByteArray) (w : World) (e : Ending) (w' : World) : Prop :=
  e = .returned (.tuple #[.int .u32 (refParseS s.data.toList).1, .int .i64 (refParseS s.data.toList).2.1, .int .i64 (refParseS s.data.toList).2.2]) ∧ w = w'

set_option maxHeartbeats 1000000 in
theorem rParse_any (s : ByteArray) (w : World) (hs : s.size ≤ 1000000000000000) : Calls Tryd.prog 40 #[.string s] w (RParsePost s w) := by
  have HF := Lib.hid (show refParseS s.data.toList = if (headS s.data.toList 0).2.2 = false ∨ (headS s.data.toList 0).2.1 < s.data.toList.length then (0, ((headS s.data.toList 0).2.1 : Int), 110) else ((headS s.data.toList 0).1, ((headS s.data.toList 0).2.1 : Int), 0) from rfl)
  have hle : (headS s.data.toList 0).2.1 ≤ s.size := by have := headF_le s.data.toList 4 true 0 0 (by omega); unfold headS; simpa using this
  go_enter Tryd.func40, Tryd.ntmps40
  go_wp2_with fail
  refine (Head_any s 0 _ hs (by omega)).mono ?_
  rintro e w' ⟨rfl, rfl⟩
  generalize headS s.data.toList 0 = r at *
  obtain ⟨a, at', is⟩ := r
  cases is
  · have H2 := Lib.hid (HF.out.trans (if_pos (Or.inl rfl)))
    clear HF
    go_wp2_with fail
    go_ret3
    refine ⟨?_, rfl⟩
    rw [H2.out]
    rfl
  · by_cases h : at' < s.size
    · have t : decide ((at' : Int) < (s.size : Int)) = true := by simp; omega
      have t' : decide (at' < s.size) = true := by simp; omega
      have H2 := Lib.hid (HF.out.trans (if_pos (Or.inr (by simpa using h))))
      clear HF
      go_wp2_with fail
      go_ret3
      refine ⟨?_, rfl⟩
      rw [H2.out]
      rfl
    · have t : decide ((at' : Int) < (s.size : Int)) = false := by simp; omega
      have t' : decide (at' < s.size) = false := by simp; omega
      have H2 := Lib.hid (HF.out.trans (if_neg (fun h' => h'.elim (fun h => by cases h) (fun h2 => h (by simpa using h2)))))
      clear HF
      go_wp2_with fail
      go_ret3
      refine ⟨?_, rfl⟩
      rw [H2.out]
      rfl
end Go.Proofs.YtmmoccceafcfkaaDoor
