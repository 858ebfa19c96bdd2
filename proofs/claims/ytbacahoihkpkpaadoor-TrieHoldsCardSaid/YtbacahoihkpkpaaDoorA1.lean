/- Small contracts of package prefix: mask, mayBe. -/
import Derived.Test.YtbacahoihkpkpaaDoorRows
import Derived.Test.YtbacahoihkpkpaaDoorM7
import Derived.WalkKit
import Derived.WalkSpells
import Derived.WalkLawsBesides
import Derived.Outline
import Derived.Deep.QuietTactic
import Derived.BigQuiet
import Derived.Lib.Hide
namespace Go.Proofs.YtbacahoihkpkpaaDoor
open Go.RowKit


set_option maxHeartbeats 400000 in
theorem mask_any (n : Int) (w : World) (h0 : 0 ≤ n) (h1 : n ≤ 32) :
    Calls Tryd.prog 77 #[.int .i64 n] w fun e w' => e = .returned (.int .u32 (mk n)) ∧ w = w' := by
  go_enter Tryd.func77, Tryd.ntmps77
  go_wp2
  go_ret
  exact ⟨rfl, rfl⟩


theorem mask_q (n : Int) (w : World) (k : Nat) (h0 : 0 ≤ n) (h1 : n ≤ 32) :
    Calls Tryd.prog 77 #[.int .i64 n] (w.drewN k) fun e w' => e = .returned (.int .u32 (mk n)) ∧ ∃ m, w' = w.drewN m :=
  (mask_any n _ h0 h1).mono fun _ _ ⟨he, hw⟩ => ⟨he, k, hw.symm⟩



def PfxAt (w : World) (b : Nat) (l : List (Int × Int)) : Prop :=
  ∀ i, i < l.length → w.cell? ⟨b, i * 2, none⟩ = some (.int .u32 (l.getD i (0, 0)).1) ∧ w.cell? ⟨b, i * 2 + 1, none⟩ = some (.int .i64 (l.getD i (0, 0)).2)


theorem all_take_succ {α : Type} (l : List α) (f : α → Bool) (k : Nat) (d : α) (h : k < l.length) : (l.take (k + 1)).all f = ((l.take k).all f && f (l.getD k d)) := by
  rw [List.take_succ_eq_append_getElem h, List.all_append]
  simp [List.getElem?_eq_getElem h]

theorem all_of_false {α : Type} (l : List α) (f : α → Bool) (k : Nat) (d : α) (h : k < l.length) (hf : f (l.getD k d) = false) : l.all f = false := by
  rw [List.all_eq_false]
  refine ⟨l.getD k d, ?_, by rw [hf]; exact Bool.false_ne_true⟩
  simp [List.getElem?_eq_getElem h]

theorem ret_bool {a b : Bool} (h : a = b) : Ending.returned (.bool a) = .returned (.bool b) := by rw [h]

set_option maxHeartbeats 1000000 in
theorem mayBe_any (b : Nat) (l : List (Int × Int)) (w : World) (hl : l.length ≤ 100) (hc : PfxAt w b l) (hb : b < w.heap.size) :
    Calls Tryd.prog 59 #[.slice (some ⟨b, 0, none⟩) l.length l.length] w fun e w' => e = .returned (.bool (l.all fun p => rightB p.1 p.2)) ∧ Below w.heap.size w w' := by
  go_enter Tryd.func59, Tryd.ntmps59
  go_wp2
  go_loopw [7] (fun i wr => ∃ k : Nat, k ≤ l.length ∧ i = .int .i64 k ∧ (l.take k).all (fun p => rightB p.1 p.2) = true ∧ Below w.heap.size w wr) (fun i _ => l.length - (intOf i).toNat)
  case atStart => exact ⟨0, Nat.zero_le _, rfl, by simp, Below.refl _ _⟩
  case round =>
    obtain ⟨k, hk, rfl, hall, hB⟩ := hrel
    by_cases hlt : k < l.length
    · have hcc := hc k hlt
      have c0 := hcc.1
      have c1 := hcc.2
      have e0 := hB.cell (p := ⟨b, k * 2, none⟩) hb
      have e1 := hB.cell (p := ⟨b, k * 2 + 1, none⟩) hb
      rw [c0] at e0
      rw [c1] at e1
      clear c0 c1 hcc
      have HS := Lib.hid (all_take_succ l (fun p => rightB p.1 p.2) k (0, 0) hlt)
      have HF := Lib.hid (all_of_false l (fun p => rightB p.1 p.2) k (0, 0) hlt)
      have H := Lib.hid hall
      clear hall
      generalize l.getD k (0,0) = pp at *
      obtain ⟨a, n⟩ := pp
      have HC := Lib.hid hc
      clear hc
      by_cases hn0 : n < 0
      · have HR := Lib.hid (show rightB a n = false by simp [rightB]; omega)
        have t1 : decide (n < 0) = true := by simpa using hn0
        go_wp2
        go_quiet (fail)
        go_wp2
        go_ret
        exact ⟨ret_bool (HF.out HR.out).symm, hB.trans (below_drewN ((Below.refl _ _).alloc hB.size _) _)⟩
      · by_cases hn32 : 32 < n
        · have HR := Lib.hid (show rightB a n = false by simp [rightB]; omega)
          have t1 : decide (n < 0) = false := by simpa using hn0
          have t2 : decide (32 < n) = true := by simpa using hn32
          go_wp2
          go_quiet (fail)
          go_wp2
          go_ret
          exact ⟨ret_bool (HF.out HR.out).symm, hB.trans (below_drewN ((Below.refl _ _).alloc hB.size _) _)⟩
        · have t1 : decide (n < 0) = false := by simpa using hn0
          have t2 : decide (32 < n) = false := by simpa using hn32
          by_cases hz : bits .andNot .u32 a (mk n) = 0
          · have HR := Lib.hid (show rightB a n = true by simp [rightB, hz]; omega)
            have t3 : (bits .andNot .u32 a (mk n) != 0) = false := by simpa using hz
            clear hz
            go_wp2
            go_quiet ((go_at_call 77; exact mask_q _ _ _ (by omega) (by omega)))
            go_wp2
            go_roundw
            case rel => exact ⟨k + 1, by omega, by go_num, by rw [HS.out, H.out, HR.out]; rfl, hB.trans (below_drewN ((Below.refl _ _).alloc hB.size _) _)⟩
            case measure => simp [intOf]; omega
          · have HR := Lib.hid (show rightB a n = false by simp [rightB, hz])
            have t3 : (bits .andNot .u32 a (mk n) != 0) = true := by simpa using hz
            clear hz
            go_wp2
            go_quiet ((go_at_call 77; exact mask_q _ _ _ (by omega) (by omega)))
            go_wp2
            go_ret
            exact ⟨ret_bool (HF.out HR.out).symm, hB.trans (below_drewN ((Below.refl _ _).alloc hB.size _) _)⟩
    · have HA := Lib.hid (show l.all (fun p => rightB p.1 p.2) = true by rw [List.take_of_length_le (by omega)] at hall; exact hall)
      clear hall
      go_wp2
      go_ret
      exact ⟨ret_bool HA.out.symm, hB⟩
end Go.Proofs.YtbacahoihkpkpaaDoor
