/- The reference: Same, of two lists of the same prefixes. -/
import Derived.Test.YtmmoccceafcfkaaDoorQ1
namespace Go.Proofs.YtmmoccceafcfkaaDoor
open Go.RowKit Go.Shelf Go.Maps
open Go.Sort (grow)

def eqRel (w0 : World) (L : List Pf) (m : Nat) (v : Value) (wr : World) : Prop :=
  ∃ i : Nat, m = L.length - i ∧ i ≤ L.length ∧ v = .int .i64 i ∧ Below w0.heap.size w0 wr
set_option maxHeartbeats 4000000 in
set_option maxRecDepth 100000 in
theorem rSame_true (b1 b2 : Option Addr) (g1 cap1 g2 o cap2 : Nat) (L : List Pf) (w : World) (h1 : KL w b1 g1 L) (h2 : KO w b2 g2 o L) (hl : L.length < 1000000) :
    Calls Tryd.prog 52 #[.slice b1 L.length cap1, .slice b2 L.length cap2] w fun e w' => e = .returned (.bool true) ∧ Below w.heap.size w w' := by
  have HS1 := Lib.hid h1
  have HS2 := Lib.hid h2
  clear h1 h2
  go_enter Tryd.func52, Tryd.ntmps52
  go_wp2_with fail
  go_loopg [5] L.length (eqRel w L)
  case atStart => exact ⟨0, rfl, by omega, rfl, Below.refl _ _⟩
  case round =>
    obtain ⟨i, hn, hil, rfl, hbl⟩ := hrel
    have Hn := Lib.hid hn
    have HBl := Lib.hid hbl
    clear hn
    by_cases hlt : i < L.length
    · obtain ⟨⟨xa, xn⟩, hr⟩ : ∃ r, L[i]? = some r := ⟨_, List.getElem?_eq_getElem hlt⟩
      obtain ⟨eb1, z0, z1⟩ := (HS1.out.below hbl).row i _ hr
      obtain ⟨eb2, y0, y1⟩ := (HS2.out.below hbl).row i _ hr
      subst eb1 eb2
      have i1 : (0 : Int) ≤ (i : Int) := by omega
      have i2 : (i : Int) < (L.length : Int) := by omega
      clear hr hbl
      dsimp only at z0 z1 y0 y1
      have zg0 := cell_regrown z0
      have zg1 := cell_regrown z1
      have yg0 := cell_regrown y0
      have yg1 := cell_regrown y1
      clear z0 z1 y0 y1
      go_upto_region 6 with fail
      refine wp_region_quiet_below (by kernel_rfl) (by kernel_rfl) ?_
      repeat (first | go_big_quiet_step (fail) | quiet_step (fail))
      refine wpQuiet_nil ?_
      intro _ hw'
      obtain ⟨⟨dq, osq⟩, hw''⟩ := hw'
      subst hw''
      go_wp2_with fail
      go_roundg (L.length - (i + 1))
      case measure => have := Hn.out; omega
      case rel => exact ⟨i + 1, rfl, by omega, by go_num, bthen HBl.out (below_regrown _ _ _)⟩
    · have e : i = L.length := by omega
      subst e
      go_wp2_with fail
      go_ret
      exact ⟨rfl, HBl.out⟩
theorem KL.ko {W : World} {base : Option Addr} {g : Nat} {K : List Pf} (h : KL W base g K) : KO W base g 0 K :=
  ⟨h.lt, fun i x hx => by have := h.row i x hx; simpa using this⟩
end Go.Proofs.YtmmoccceafcfkaaDoor
