/- Small contracts of package prefix: mask, mayBe, Check. -/
import Derived.Test.YtkigoihdmojpfaaRows
import Derived.Test.YtkigoihdmojpfaaP1
import Derived.WalkKit
import Derived.WalkSpells
import Derived.WalkLawsBesides
import Derived.Outline
import Derived.Deep.QuietTactic
import Derived.BigQuiet
import Derived.Lib.Hide
import Derived.Deep.RegionHeld3
import Derived.WalkMore
import Derived.ScopeJumps
import Derived.Lib.QuietBelow
namespace Go.Proofs.Ytkigoihdmojpfaa
open Go.RowKit

set_option maxHeartbeats 400000 in
theorem mask_any (n : Int) (w : World) (h0 : 0 ≤ n) (h1 : n ≤ 32) :
    Calls Try.prog 63 #[.int .i64 n] w fun e w' => e = .returned (.int .u32 (mk n)) ∧ w = w' := by
  go_enter Try.func63, Try.ntmps63
  go_wp2
  go_ret
  exact ⟨rfl, rfl⟩


theorem mask_q (n : Int) (w : World) (k : Nat) (h0 : 0 ≤ n) (h1 : n ≤ 32) :
    Calls Try.prog 63 #[.int .i64 n] (w.drewN k) fun e w' => e = .returned (.int .u32 (mk n)) ∧ ∃ m, w' = w.drewN m :=
  (mask_any n _ h0 h1).mono fun _ _ ⟨he, hw⟩ => ⟨he, k, hw.symm⟩



def PfxAt (w : World) (b : Nat) (l : List (Int × Int)) : Prop :=
  ∀ i, i < l.length → w.cell? ⟨b, i * 2, none⟩ = some (.int .u32 (l.getD i (0, 0)).1) ∧ w.cell? ⟨b, i * 2 + 1, none⟩ = some (.int .i64 (l.getD i (0, 0)).2)


theorem all_take_succ {α : Type} (l : List α) (f : α → Bool) (k : Nat) (d : α) (h : k < l.length) : (l.take (k + 1)).all f = ((l.take k).all f && f (l.getD k d)) := by
  rw [List.take_succ_eq_append_getElem h, List.all_append]
  simp [List.getElem?_eq_getElem h]

theorem all_of_false {α : Type} (l : List α) (f : α → Bool) (k : Nat) (d : α) (h : k < l.length) (hf : f (l.getD k d) = false) : l.all f = false := by
  rw [List.all_eq_false]
  refine ⟨l.getD k d, ?_, by rw [hf]; exact Bool.false_ne_true⟩
  simp [List.getElem?_eq_getElem h]

theorem ret_bool {a b : Bool} (h : a = b) : Ending.returned (.bool a) = .returned (.bool b) := by rw [h]

set_option maxHeartbeats 1000000 in
theorem mayBe_any (b : Nat) (l : List (Int × Int)) (w : World) (hl : l.length ≤ 100) (hc : PfxAt w b l) (hb : b < w.heap.size) :
    Calls Try.prog 52 #[.slice (some ⟨b, 0, none⟩) l.length l.length] w fun e w' => e = .returned (.bool (l.all fun p => rightB p.1 p.2)) ∧ Below w.heap.size w w' := by
  go_enter Try.func52, Try.ntmps52
  go_wp2
  go_loopw [7] (fun i wr => ∃ k : Nat, k ≤ l.length ∧ i = .int .i64 k ∧ (l.take k).all (fun p => rightB p.1 p.2) = true ∧ Below w.heap.size w wr) (fun i _ => l.length - (intOf i).toNat)
  case atStart => exact ⟨0, Nat.zero_le _, rfl, by simp, Below.refl _ _⟩
  case round =>
    obtain ⟨k, hk, rfl, hall, hB⟩ := hrel
    by_cases hlt : k < l.length
    · have hcc := hc k hlt
      have c0 := hcc.1
      have c1 := hcc.2
      have e0 := hB.cell (p := ⟨b, k * 2, none⟩) hb
      have e1 := hB.cell (p := ⟨b, k * 2 + 1, none⟩) hb
      rw [c0] at e0
      rw [c1] at e1
      clear c0 c1 hcc
      have HS := Lib.hid (all_take_succ l (fun p => rightB p.1 p.2) k (0, 0) hlt)
      have HF := Lib.hid (all_of_false l (fun p => rightB p.1 p.2) k (0, 0) hlt)
      have H := Lib.hid hall
      clear hall
      generalize l.getD k (0,0) = pp at *
      obtain ⟨a, n⟩ := pp
      have HC := Lib.hid hc
      clear hc
      by_cases hn0 : n < 0
      · have HR := Lib.hid (show rightB a n = false by simp [rightB]; omega)
        have t1 : decide (n < 0) = true := by simpa using hn0
        go_wp2
        go_quiet (fail)
        go_wp2
        go_ret
        exact ⟨ret_bool (HF.out HR.out).symm, hB.trans (below_drewN ((Below.refl _ _).alloc hB.size _) _)⟩
      · by_cases hn32 : 32 < n
        · have HR := Lib.hid (show rightB a n = false by simp [rightB]; omega)
          have t1 : decide (n < 0) = false := by simpa using hn0
          have t2 : decide (32 < n) = true := by simpa using hn32
          go_wp2
          go_quiet (fail)
          go_wp2
          go_ret
          exact ⟨ret_bool (HF.out HR.out).symm, hB.trans (below_drewN ((Below.refl _ _).alloc hB.size _) _)⟩
        · have t1 : decide (n < 0) = false := by simpa using hn0
          have t2 : decide (32 < n) = false := by simpa using hn32
          by_cases hz : bits .andNot .u32 a (mk n) = 0
          · have HR := Lib.hid (show rightB a n = true by simp [rightB, hz]; omega)
            have t3 : (bits .andNot .u32 a (mk n) != 0) = false := by simpa using hz
            clear hz
            go_wp2
            go_quiet ((go_at_call 63; exact mask_q _ _ _ (by omega) (by omega)))
            go_wp2
            go_roundw
            case rel => exact ⟨k + 1, by omega, by go_num, by rw [HS.out, H.out, HR.out]; rfl, hB.trans (below_drewN ((Below.refl _ _).alloc hB.size _) _)⟩
            case measure => simp [intOf]; omega
          · have HR := Lib.hid (show rightB a n = false by simp [rightB, hz])
            have t3 : (bits .andNot .u32 a (mk n) != 0) = true := by simpa using hz
            clear hz
            go_wp2
            go_quiet ((go_at_call 63; exact mask_q _ _ _ (by omega) (by omega)))
            go_wp2
            go_ret
            exact ⟨ret_bool (HF.out HR.out).symm, hB.trans (below_drewN ((Below.refl _ _).alloc hB.size _) _)⟩
    · have HA := Lib.hid (show l.all (fun p => rightB p.1 p.2) = true by rw [List.take_of_length_le (by omega)] at hall; exact hall)
      clear hall
      go_wp2
      go_ret
      exact ⟨ret_bool HA.out.symm, hB⟩
/-- a scope whose run may jump forward once, to label l -/
theorem wp_scope_fwd {P : Program} {a : Act} {w : World} {Q : Exit → Act → World → Prop} {c rest : Code} (l : Nat) (hf : findLabel c l = some rest)
    (h : c.wp P (Exit.jump l (fun a w => rest.wp P (Exit.noGoto Q) a w) Q) a w) : (Code.scope c).wp P Q a w := by
  refine wp_scope_jumps l _ (fun _ _ => 0) hf h ?_
  intro a' w' hJ
  refine Code.wp_mono ?_ hJ
  intro e a2 w2 h2
  cases e <;> first | exact h2 | exact (h2 : False).elim

def chk (a n : Int) : Int := if rightB a n then 0 else 2
theorem chk_t {a n : Int} (h : rightB a n = true) : chk a n = 0 := by simp [chk, h]
theorem chk_f {a n : Int} (h : rightB a n = false) : chk a n = 2 := by simp [chk, h]

theorem ret_int {k : IntKind} {a b : Int} (h : a = b) : Ending.returned (.int k a) = .returned (.int k b) := by rw [h]

theorem pfx1 (w : World) (b : Nat) (a n : Int) (h0 : w.cell? ⟨b, 0, none⟩ = some (.int .u32 a)) (h1 : w.cell? ⟨b, 1, none⟩ = some (.int .i64 n)) : PfxAt w b [(a, n)] := by
  intro i hi
  obtain rfl : i = 0 := by simp at hi; omega
  exact ⟨h0, h1⟩
theorem pfx2 (w : World) (b : Nat) (a n a' n' : Int) (h0 : w.cell? ⟨b, 0, none⟩ = some (.int .u32 a)) (h1 : w.cell? ⟨b, 1, none⟩ = some (.int .i64 n)) (h2 : w.cell? ⟨b, 2, none⟩ = some (.int .u32 a')) (h3 : w.cell? ⟨b, 3, none⟩ = some (.int .i64 n')) : PfxAt w b [(a, n), (a', n')] := by
  intro i hi
  match i, hi with
  | 0, _ => exact ⟨h0, h1⟩
  | 1, _ => exact ⟨h2, h3⟩

/-- mayBe at one prefix -/
theorem mayBe1 (b : Nat) (a n : Int) (w : World) (r : Bool) (hr : rightB a n = r) (h0 : w.cell? ⟨b, 0, none⟩ = some (.int .u32 a)) (h1 : w.cell? ⟨b, 1, none⟩ = some (.int .i64 n)) :
    Calls Try.prog 52 #[.slice (some ⟨b, 0, none⟩) 1 1] w fun e w' => e = .returned (.bool r) ∧ Below w.heap.size w w' := by
  have := mayBe_any b [(a, n)] w (by simp) (pfx1 w b a n h0 h1) (World.block_lt_of_cell? w _ h0)
  simpa [hr] using this
theorem mayBe2 (b : Nat) (a n a' n' : Int) (w : World) (r r' : Bool) (hr : rightB a n = r) (hr' : rightB a' n' = r') (h0 : w.cell? ⟨b, 0, none⟩ = some (.int .u32 a)) (h1 : w.cell? ⟨b, 1, none⟩ = some (.int .i64 n))
   (h2 : w.cell? ⟨b, 2, none⟩ = some (.int .u32 a')) (h3 : w.cell? ⟨b, 3, none⟩ = some (.int .i64 n')) :
    Calls Try.prog 52 #[.slice (some ⟨b, 0, none⟩) 2 2] w fun e w' => e = .returned (.bool (r && r')) ∧ Below w.heap.size w w' := by
  have := mayBe_any b [(a, n), (a', n')] w (by simp) (pfx2 w b a n a' n' h0 h1 h2 h3) (World.block_lt_of_cell? w _ h0)
  simpa [hr, hr'] using this

set_option maxHeartbeats 400000 in
theorem Check_t (a n : Int) (w : World) (h : rightB a n = true) :
    Calls Try.prog 37 #[.agg #[.int .u32 a, .int .i64 n]] w fun e w' => e = .returned (.int .i64 0) ∧ Below w.heap.size w w' := by
  have H := Lib.hid h
  clear h
  go_enter Try.func37, Try.ntmps37
  go_wp2_with fail
  go_step3
  go_wp2_with (go_at_call 52; refine (mayBe1 _ a n _ true H.out ?_ ?_).mono ?_)
  · simp [go_sem]
  · simp [go_sem]
  rintro e w' ⟨rfl, hb⟩
  go_wp2
  rw [Exit.noGoto_ret]
  go_ret
  exact ⟨rfl, (((Below.refl _ _).alloc (Nat.le_refl _) _).alloc (by simp) _).trans (hb.mono (by simp; omega))⟩

set_option maxHeartbeats 400000 in
theorem Check_f (a n : Int) (w : World) (h : rightB a n = false) :
    Calls Try.prog 37 #[.agg #[.int .u32 a, .int .i64 n]] w fun e w' => e = .returned (.int .i64 2) ∧ Below w.heap.size w w' := by
  have H := Lib.hid h
  clear h
  go_enter Try.func37, Try.ntmps37
  go_wp2_with fail
  refine wp_scope_fwd 0 rfl ?_
  go_wp2_with (go_at_call 52; refine (mayBe1 _ a n _ false H.out ?_ ?_).mono ?_)
  · simp [go_sem]
  · simp [go_sem]
  rintro e w' ⟨rfl, hb⟩
  go_wp2
  go_step3
  refine ⟨rfl, ?_⟩
  go_wp2
  rw [Exit.noGoto_ret]
  go_ret
  exact ⟨rfl, (((Below.refl _ _).alloc (Nat.le_refl _) _).alloc (by simp) _).trans (hb.mono (by simp; omega))⟩


end Go.Proofs.Ytkigoihdmojpfaa
