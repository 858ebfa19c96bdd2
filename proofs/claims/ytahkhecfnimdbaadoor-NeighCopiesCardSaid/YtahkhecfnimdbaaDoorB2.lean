/- Contracts of package addr: kindRules, Kind. -/
import Derived.Test.YtahkhecfnimdbaaDoorB1
import Derived.Laws.EntriesVeiled
namespace Go.Proofs.YtahkhecfnimdbaaDoor
open Go.RowKit

def kindI (a : Int) : Int := if a = 0 then 1 else if a / 16777216 = 0 then 2 else if a / 16777216 = 127 then 3 else if 224 ≤ a / 16777216 ∧ a / 16777216 ≤ 239 then 4 else if 240 ≤ a / 16777216 then 5 else 6


def ruleCells (b : Nat) : Array Value := #[.int .i64 1, .func (.func 53) #[] #[], .int .i64 2, .func (.func 54) #[] #[.pointer (some ⟨b, 0, none⟩)], .int .i64 3, .func (.func 55) #[] #[.pointer (some ⟨b, 0, none⟩)], .int .i64 4, .func (.func 56) #[] #[.pointer (some ⟨b, 0, none⟩)], .int .i64 5, .func (.func 57) #[] #[.pointer (some ⟨b, 0, none⟩)], .int .i64 6, .func (.func 58) #[] #[]]

set_option maxRecDepth 100000 in
set_option maxHeartbeats 1000000 in
theorem kindRules_any (w : World) :
    Calls Tryd.prog 41 #[] w fun e w' => e = .returned (.slice (some ⟨w.heap.size + 1, 0, none⟩) 6 6) ∧ w' = (w.alloc (.cells #[.func (.func 51) #[] #[]] 107)).alloc (.cells (ruleCells w.heap.size) 90) := by
  have hmf : ∀ (fn : Fn) (first cap : Array Value) (w : World), (Instr.makeFunc fn first cap).run Tryd.prog w = .ok (.func fn first cap) w := fun _ _ _ _ => rfl
  go_enter Tryd.func41, Tryd.ntmps41
  go_wp2_with fail
  go_ret
  exact ⟨rfl, rfl⟩

def ruleB (a : Int) : Nat → Bool
  | 0 => a == 0
  | 1 => a / 16777216 == 0
  | 2 => a / 16777216 == 127
  | 3 => decide (224 ≤ a / 16777216) && decide (a / 16777216 ≤ 239)
  | 4 => decide (240 ≤ a / 16777216)
  | _ => true

theorem kind_of (a : Int) (k : Nat) (hk : k ≤ 5) (hf : ∀ j, j < k → ruleB a j = false) (ht : ruleB a k = true) : kindI a = (k : Int) + 1 := by
  unfold kindI
  have f : ∀ j, j < k → ruleB a j = false := hf
  match k, hk with
  | 0, _ => simp [ruleB] at ht; simp [ht]
  | 1, _ => have := f 0 (by omega); simp [ruleB] at this ht; simp [this, ht]
  | 2, _ => have h0 := f 0 (by omega); have h1 := f 1 (by omega); simp [ruleB] at h0 h1 ht; rw [if_neg h0, if_neg h1, if_pos ht]; rfl
  | 3, _ => have h0 := f 0 (by omega); have h1 := f 1 (by omega); have h2 := f 2 (by omega); simp [ruleB] at h0 h1 h2 ht; rw [if_neg h0, if_neg h1, if_neg h2, if_pos ht]; rfl
  | 4, _ => have h0 := f 0 (by omega); have h1 := f 1 (by omega); have h2 := f 2 (by omega); have h3 := f 3 (by omega); simp [ruleB] at h0 h1 h2 h3 ht; rw [if_neg h0, if_neg h1, if_neg h2, if_neg (by omega), if_pos ht]; rfl
  | 5, _ => have h0 := f 0 (by omega); have h1 := f 1 (by omega); have h2 := f 2 (by omega); have h3 := f 3 (by omega); have h4 := f 4 (by omega); simp [ruleB] at h0 h1 h2 h3 h4; rw [if_neg h0, if_neg h1, if_neg h2, if_neg (by omega), if_neg (by omega)]; rfl

set_option maxRecDepth 100000 in
set_option maxHeartbeats 4000000 in
theorem Kind_any (a : Int) (w : World) (a0 : 0 ≤ a) (a1 : a < 4294967296) :
    Calls Tryd.prog 27 #[.int .u32 a] w fun e w' => e = .returned (.int .i64 (kindI a)) ∧ Below w.heap.size w w' := by
  go_enter Tryd.func27, Tryd.ntmps27
  go_wp2_with fail
  refine (kindRules_any _).mono ?_
  rintro e w1 ⟨rfl, hw1⟩
  have hB1 : Below w.heap.size w w1 := by rw [hw1]; exact ((Below.refl _ _).alloc (Nat.le_refl _) _).alloc (by simp) _
  have HW := Lib.hid hw1
  clear hw1
  go_wp2_with fail
  go_loopw [7] (fun i wr => ∃ k : Nat, k ≤ 5 ∧ i = .int .i64 k ∧ (∀ j, j < k → ruleB a j = false) ∧ Below w1.heap.size w1 wr) (fun i _ => 6 - (intOf i).toNat)
  case atStart => exact ⟨0, Nat.zero_le _, rfl, fun _ h => absurd h (Nat.not_lt_zero _), Below.refl _ _⟩
  case round =>
    obtain ⟨k, hk, rfl, hfalse, hB⟩ := hrel
    have hw1 := HW.out
    clear HW
    subst hw1
    have cbx := (hB.cell (p := ⟨w.heap.size, 0, none⟩) (by simp; omega)).trans (show _ = some (.func (.func 51) #[] #[]) by simp [go_sem])
    have hlt : w.heap.size < wr.heap.size := by have := hB.size; simp at this; omega
    have hcases : k = 0 ∨ k = 1 ∨ k = 2 ∨ k = 3 ∨ k = 4 ∨ k = 5 := by omega
    rcases hcases with rfl | rfl | rfl | rfl | rfl | rfl
    · have cr0 := (hB.cell (p := ⟨w.heap.size + 1, 0, none⟩) (by simp)).trans (show _ = some (.int .i64 1) by simp [go_sem, ruleCells])
      have cr1 := (hB.cell (p := ⟨w.heap.size + 1, 1, none⟩) (by simp)).trans (show _ = some (.func (.func 53) #[] #[]) by simp [go_sem, ruleCells])
      have HB := Lib.hid hfalse
      clear hfalse
      cases hrk : ruleB a 0
      · have H := Lib.hid hrk
        clear hrk
        go_wp2_with fail
        refine (rule83 _ _ false H.out).mono ?_
        rintro e w2 ⟨rfl, rfl⟩
        go_wp2_with fail
        go_roundw
        case rel => exact ⟨1, by omega, by go_num, fun j hj => (by rcases Nat.lt_succ_iff_lt_or_eq.1 hj with h | h; exact HB.out j h; subst h; exact H.out), hB.trans ((Below.refl _ _).alloc hB.size _)⟩
        case measure => simp [intOf]
      · have H := Lib.hid hrk
        clear hrk
        go_wp2_with fail
        refine (rule83 _ _ true H.out).mono ?_
        rintro e w2 ⟨rfl, rfl⟩
        go_wp2_with fail
        go_ret
        exact ⟨ret_int (kind_of a 0 (by omega) HB.out H.out).symm, hB1.trans ((hB.trans ((Below.refl _ _).alloc hB.size _)).mono (by simp; omega))⟩
    · have cr0 := (hB.cell (p := ⟨w.heap.size + 1, 2, none⟩) (by simp)).trans (show _ = some (.int .i64 2) by simp [go_sem, ruleCells])
      have cr1 := (hB.cell (p := ⟨w.heap.size + 1, 3, none⟩) (by simp)).trans (show _ = some (.func (.func 54) #[] #[.pointer (some ⟨w.heap.size, 0, none⟩)]) by simp [go_sem, ruleCells])
      have HB := Lib.hid hfalse
      clear hfalse
      cases hrk : ruleB a 1
      · have H := Lib.hid hrk
        clear hrk
        go_wp2_with fail
        refine (rule84 _ _ _ false a0 a1 ?_ H.out).mono ?_
        · exact (World.cell?_alloc_lt _ _ _ hlt).trans cbx
        rintro e w2 ⟨rfl, hb2⟩
        go_wp2_with fail
        go_roundw
        case rel => exact ⟨2, by omega, by go_num, fun j hj => (by rcases Nat.lt_succ_iff_lt_or_eq.1 hj with h | h; exact HB.out j h; subst h; exact H.out), hB.trans (((Below.refl _ _).alloc hB.size _).trans (hb2.mono (by have := hB.size; simp; omega)))⟩
        case measure => simp [intOf]
      · have H := Lib.hid hrk
        clear hrk
        go_wp2_with fail
        refine (rule84 _ _ _ true a0 a1 ?_ H.out).mono ?_
        · exact (World.cell?_alloc_lt _ _ _ hlt).trans cbx
        rintro e w2 ⟨rfl, hb2⟩
        have ck := (hb2.cell (p := ⟨wr.heap.size, 0, none⟩) (by simp)).trans (show _ = some (.int .i64 2) by simp [go_sem])
        go_wp2_with fail
        go_ret
        exact ⟨ret_int (kind_of a 1 (by omega) HB.out H.out).symm, hB1.trans ((hB.trans (((Below.refl _ _).alloc hB.size _).trans (hb2.mono (by have := hB.size; simp; omega)))).mono (by simp; omega))⟩
    · have cr0 := (hB.cell (p := ⟨w.heap.size + 1, 4, none⟩) (by simp)).trans (show _ = some (.int .i64 3) by simp [go_sem, ruleCells])
      have cr1 := (hB.cell (p := ⟨w.heap.size + 1, 5, none⟩) (by simp)).trans (show _ = some (.func (.func 55) #[] #[.pointer (some ⟨w.heap.size, 0, none⟩)]) by simp [go_sem, ruleCells])
      have HB := Lib.hid hfalse
      clear hfalse
      cases hrk : ruleB a 2
      · have H := Lib.hid hrk
        clear hrk
        go_wp2_with fail
        refine (rule85 _ _ _ false a0 a1 ?_ H.out).mono ?_
        · exact (World.cell?_alloc_lt _ _ _ hlt).trans cbx
        rintro e w2 ⟨rfl, hb2⟩
        go_wp2_with fail
        go_roundw
        case rel => exact ⟨3, by omega, by go_num, fun j hj => (by rcases Nat.lt_succ_iff_lt_or_eq.1 hj with h | h; exact HB.out j h; subst h; exact H.out), hB.trans (((Below.refl _ _).alloc hB.size _).trans (hb2.mono (by have := hB.size; simp; omega)))⟩
        case measure => simp [intOf]
      · have H := Lib.hid hrk
        clear hrk
        go_wp2_with fail
        refine (rule85 _ _ _ true a0 a1 ?_ H.out).mono ?_
        · exact (World.cell?_alloc_lt _ _ _ hlt).trans cbx
        rintro e w2 ⟨rfl, hb2⟩
        have ck := (hb2.cell (p := ⟨wr.heap.size, 0, none⟩) (by simp)).trans (show _ = some (.int .i64 3) by simp [go_sem])
        go_wp2_with fail
        go_ret
        exact ⟨ret_int (kind_of a 2 (by omega) HB.out H.out).symm, hB1.trans ((hB.trans (((Below.refl _ _).alloc hB.size _).trans (hb2.mono (by have := hB.size; simp; omega)))).mono (by simp; omega))⟩
    · have cr0 := (hB.cell (p := ⟨w.heap.size + 1, 6, none⟩) (by simp)).trans (show _ = some (.int .i64 4) by simp [go_sem, ruleCells])
      have cr1 := (hB.cell (p := ⟨w.heap.size + 1, 7, none⟩) (by simp)).trans (show _ = some (.func (.func 56) #[] #[.pointer (some ⟨w.heap.size, 0, none⟩)]) by simp [go_sem, ruleCells])
      have HB := Lib.hid hfalse
      clear hfalse
      cases hrk : ruleB a 3
      · have H := Lib.hid hrk
        clear hrk
        go_wp2_with fail
        refine (rule86 _ _ _ false a0 a1 ?_ H.out).mono ?_
        · exact (World.cell?_alloc_lt _ _ _ hlt).trans cbx
        rintro e w2 ⟨rfl, hb2⟩
        go_wp2_with fail
        go_roundw
        case rel => exact ⟨4, by omega, by go_num, fun j hj => (by rcases Nat.lt_succ_iff_lt_or_eq.1 hj with h | h; exact HB.out j h; subst h; exact H.out), hB.trans (((Below.refl _ _).alloc hB.size _).trans (hb2.mono (by have := hB.size; simp; omega)))⟩
        case measure => simp [intOf]
      · have H := Lib.hid hrk
        clear hrk
        go_wp2_with fail
        refine (rule86 _ _ _ true a0 a1 ?_ H.out).mono ?_
        · exact (World.cell?_alloc_lt _ _ _ hlt).trans cbx
        rintro e w2 ⟨rfl, hb2⟩
        have ck := (hb2.cell (p := ⟨wr.heap.size, 0, none⟩) (by simp)).trans (show _ = some (.int .i64 4) by simp [go_sem])
        go_wp2_with fail
        go_ret
        exact ⟨ret_int (kind_of a 3 (by omega) HB.out H.out).symm, hB1.trans ((hB.trans (((Below.refl _ _).alloc hB.size _).trans (hb2.mono (by have := hB.size; simp; omega)))).mono (by simp; omega))⟩
    · have cr0 := (hB.cell (p := ⟨w.heap.size + 1, 8, none⟩) (by simp)).trans (show _ = some (.int .i64 5) by simp [go_sem, ruleCells])
      have cr1 := (hB.cell (p := ⟨w.heap.size + 1, 9, none⟩) (by simp)).trans (show _ = some (.func (.func 57) #[] #[.pointer (some ⟨w.heap.size, 0, none⟩)]) by simp [go_sem, ruleCells])
      have HB := Lib.hid hfalse
      clear hfalse
      cases hrk : ruleB a 4
      · have H := Lib.hid hrk
        clear hrk
        go_wp2_with fail
        refine (rule87 _ _ _ false a0 a1 ?_ H.out).mono ?_
        · exact (World.cell?_alloc_lt _ _ _ hlt).trans cbx
        rintro e w2 ⟨rfl, hb2⟩
        go_wp2_with fail
        go_roundw
        case rel => exact ⟨5, by omega, by go_num, fun j hj => (by rcases Nat.lt_succ_iff_lt_or_eq.1 hj with h | h; exact HB.out j h; subst h; exact H.out), hB.trans (((Below.refl _ _).alloc hB.size _).trans (hb2.mono (by have := hB.size; simp; omega)))⟩
        case measure => simp [intOf]
      · have H := Lib.hid hrk
        clear hrk
        go_wp2_with fail
        refine (rule87 _ _ _ true a0 a1 ?_ H.out).mono ?_
        · exact (World.cell?_alloc_lt _ _ _ hlt).trans cbx
        rintro e w2 ⟨rfl, hb2⟩
        have ck := (hb2.cell (p := ⟨wr.heap.size, 0, none⟩) (by simp)).trans (show _ = some (.int .i64 5) by simp [go_sem])
        go_wp2_with fail
        go_ret
        exact ⟨ret_int (kind_of a 4 (by omega) HB.out H.out).symm, hB1.trans ((hB.trans (((Below.refl _ _).alloc hB.size _).trans (hb2.mono (by have := hB.size; simp; omega)))).mono (by simp; omega))⟩
    · have cr0 := (hB.cell (p := ⟨w.heap.size + 1, 10, none⟩) (by simp)).trans (show _ = some (.int .i64 6) by simp [go_sem, ruleCells])
      have cr1 := (hB.cell (p := ⟨w.heap.size + 1, 11, none⟩) (by simp)).trans (show _ = some (.func (.func 58) #[] #[]) by simp [go_sem, ruleCells])
      have HB := Lib.hid hfalse
      clear hfalse
      go_wp2_with fail
      refine (rule88 _ _).mono ?_
      rintro e w2 ⟨rfl, rfl⟩
      go_wp2_with fail
      go_ret
      exact ⟨ret_int (kind_of a 5 (by omega) HB.out rfl).symm, hB1.trans ((hB.trans ((Below.refl _ _).alloc hB.size _)).mono (by simp; omega))⟩
end Go.Proofs.YtahkhecfnimdbaaDoor
