/- The reference: a list in order in memory; At. -/
import Derived.Test.YtbacahoihkpkpaaDoorT34
namespace Go.Proofs.YtbacahoihkpkpaaDoor
open Go.RowKit Go.Shelf Go.Maps
open Go.Sort (grow)

/-- the reference's trie: the list behind it -/
structure RT (W : World) (g : Nat) (v : Value) (L : List (Key × Int)) : Prop where
  ex : ∃ (base : Option Addr) (cap : Nat), v = .agg #[.slice base L.length cap] ∧ RL W base g 0 L ∧ L.length ≤ cap
theorem RT.of_block {W W' : World} {g : Nat} {v : Value} {L : List (Key × Int)} (h : RT W g v L) (e : W'.heap[g]? = W.heap[g]?) : RT W' g v L := by
  obtain ⟨base, cap, h1, h2, h3⟩ := h.ex
  exact ⟨base, cap, h1, h2.of_block e, h3⟩
theorem RT.lt {W : World} {g : Nat} {v : Value} {L : List (Key × Int)} (h : RT W g v L) : g < W.heap.size := by
  obtain ⟨base, cap, h1, h2, h3⟩ := h.ex
  exact h2.lt
theorem RT.below {W W' : World} {g : Nat} {v : Value} {L : List (Key × Int)} (h : RT W g v L) (hb : Below W.heap.size W W') : RT W' g v L := h.of_block (hb.block g h.lt)
theorem RT.nil {W : World} (h : 0 < W.heap.size) : RT W 0 (.agg #[.slice none 0 0]) [] := ⟨none, 0, rfl, RL.none h 0, by simp⟩

def isP (a n : Int) (x : Key × Int) : Bool := decide (ka x.1 = a ∧ (x.1.length : Int) = n)
def atI (a n : Int) (L : List (Key × Int)) : Option Nat := L.findIdx? (isP a n)
def atV (o : Option Nat) : Int := match o with
  | some i => i
  | none => -1
theorem fi_none {α : Type} {f : α → Bool} {L : List α} (h : ∀ j, j < L.length → ∀ x, L[j]? = some x → f x = false) : L.findIdx? f = none := by
  rw [List.findIdx?_eq_none_iff]
  intro x hx
  obtain ⟨i, hi, e⟩ := List.mem_iff_getElem.1 hx
  exact h i hi x (by rw [List.getElem?_eq_getElem hi, e])
theorem fi_some {α : Type} {f : α → Bool} : ∀ {L : List α} {i : Nat}, (∀ j, j < i → ∀ x, L[j]? = some x → f x = false) → (∃ x, L[i]? = some x ∧ f x = true) → L.findIdx? f = some i
  | [], i, _, ⟨x, hx, _⟩ => by simp at hx
  | y :: L, 0, _, ⟨x, hx, hf⟩ => by
    simp at hx
    subst hx
    simp [List.findIdx?_cons, hf]
  | y :: L, i + 1, h1, ⟨x, hx, hf⟩ => by
    have h0 := h1 0 (by omega) y rfl
    have := fi_some (L := L) (i := i) (fun j hj z hz => h1 (j + 1) (by omega) z (by simpa using hz)) ⟨x, by simpa using hx, hf⟩
    simp [List.findIdx?_cons, h0, this]
theorem isP_key {x : Key × Int} {p : Key} (hp : p.length ≤ 32) : isP (ka p) p.length x = decide (x.1 = p) := by
  unfold isP
  have := ka_inj_iff (x := p) (y := x.1) hp
  rw [decide_eq_decide]
  constructor
  · rintro ⟨h1, h2⟩; exact (this.1 ⟨h1.symm, h2.symm⟩).symm
  · rintro rfl; exact ⟨rfl, rfl⟩
theorem atI_key {L : List (Key × Int)} {p : Key} (hp : p.length ≤ 32) : atI (ka p) p.length L = idxR L p := by
  unfold atI idxR
  congr 1
  funext x
  exact isP_key hp

def atRel (w0 : World) (a n : Int) (L : List (Key × Int)) (m : Nat) (v : Value) (wr : World) : Prop :=
  ∃ i : Nat, m = L.length - i ∧ i ≤ L.length ∧ v = .int .i64 i ∧ (∀ j, j < i → ∀ x, L[j]? = some x → isP a n x = false) ∧ Below w0.heap.size w0 wr

set_option maxRecDepth 100000 in
set_option maxHeartbeats 4000000 in
theorem rAt_any (v : Value) (g : Nat) (L : List (Key × Int)) (a n : Int) (w : World) (hS : RT w g v L) (hl : L.length ≤ 1000000) :
    Calls Tryd.prog 29 #[v, .agg #[.int .u32 a, .int .i64 n]] w fun e w' => e = .returned (.int .i64 (atV (atI a n L))) ∧ Below w.heap.size w w' := by
  obtain ⟨base, cap, rfl, hS, hcap⟩ := hS.ex
  have b0 : Below w.heap.size w ((w.alloc (.cells #[.slice base L.length cap] 31)).alloc (.cells #[.int .u32 a, .int .i64 n] 26)) := ((Below.refl _ w).alloc (Nat.le_refl _) _).alloc (by simp) _
  have HRl := Lib.hid (hS.below b0)
  have HBB := Lib.hid b0
  have HPd := Lib.hid (show PBox ((w.alloc (.cells #[.slice base L.length cap] 31)).alloc (.cells #[.int .u32 a, .int .i64 n] 26)) (w.heap.size + 1) a n by
    have := PBox.new (w.alloc (.cells #[.slice base L.length cap] 31)) a n
    simpa using this)
  have HOb := Lib.hid (show OneB ((w.alloc (.cells #[.slice base L.length cap] 31)).alloc (.cells #[.int .u32 a, .int .i64 n] 26)) w.heap.size (.slice base L.length cap) 31 from (OneB.new w _ _).alloc _)
  clear b0 hS
  go_enter Tryd.func29, Tryd.ntmps29
  go_wp2_with fail
  generalize ((w.alloc (.cells #[.slice base L.length cap] 31)).alloc (.cells #[.int .u32 a, .int .i64 n] 26)) = w2 at *
  go_loopg [5] L.length (atRel w2 a n L)
  case atStart => exact ⟨0, rfl, by omega, rfl, fun j hj => by omega, Below.refl _ _⟩
  case round =>
    obtain ⟨i, hn, hil, rfl, hall, hbl⟩ := hrel
    have Hn := Lib.hid hn
    have HAll := Lib.hid hall
    have HBl := Lib.hid hbl
    have c0 := cell_regrown (HPd.out.below hbl).c0
    have c1 := cell_regrown (HPd.out.below hbl).c1
    have c2 := cell_regrown (HOb.out.below hbl).c
    have c3 := (HOb.out.below hbl).c
    clear hn hall
    by_cases hlt : i < L.length
    · obtain ⟨x, hx⟩ : ∃ x, L[i]? = some x := ⟨_, List.getElem?_eq_getElem hlt⟩
      obtain ⟨rfl, z0, z1', z2⟩ := (HRl.out.below hbl).row i _ hx
      simp only [Nat.zero_add] at z0 z1' z2
      have HX := Lib.hid hx
      have y0 := cell_regrown z0
      have y1 := cell_regrown z1'
      clear hx hbl z0 z1' z2
      have i1 : (0 : Int) ≤ (i : Int) := by omega
      have i2 : (i : Int) < (L.length : Int) := by omega
      by_cases f0 : ka x.1 = a
      · by_cases f1 : (x.1.length : Int) = n
        · subst f0 f1
          have HE := Lib.hid (show atV (atI (ka x.1) x.1.length L) = i by unfold atI; rw [fi_some HAll.out ⟨x, HX.out, by simp [isP]⟩]; rfl)
          go_upto_region 4 with fail
          refine wp_region_quiet_below (by kernel_rfl) (by kernel_rfl) ?_
          repeat (first | go_big_quiet_step (fail) | quiet_step (fail))
          refine wpQuiet_nil ?_
          intro _ hw'
          obtain ⟨⟨dq, osq⟩, hw''⟩ := hw'
          subst hw''
          go_wp2_with fail
          go_ret
          exact ⟨ret_int HE.out.symm, bthen HBB.out (bthen HBl.out (below_regrown _ _ _))⟩
        · have t1 : ((x.1.length : Int) == n) = false := by simpa using f1
          have HF := Lib.hid (show isP a n x = false by simp [isP, f1])
          subst f0
          clear f1
          go_upto_region 4 with fail
          refine wp_region_quiet_below (by kernel_rfl) (by kernel_rfl) ?_
          repeat (first | go_big_quiet_step (fail) | quiet_step (fail))
          refine wpQuiet_nil ?_
          intro _ hw'
          obtain ⟨⟨dq, osq⟩, hw''⟩ := hw'
          subst hw''
          go_wp2_with fail
          go_roundg (L.length - (i + 1))
          case measure => have := Hn.out; omega
          case rel => exact ⟨i + 1, rfl, by omega, by go_num, fun j hj y hy => (by
            by_cases e : j = i
            · subst e; rw [HX.out] at hy; cases hy; exact HF.out
            · exact HAll.out j (by omega) y hy), bthen HBl.out (below_regrown _ _ _)⟩
      · have t1 : (ka x.1 == a) = false := by simpa using f0
        have HF := Lib.hid (show isP a n x = false by simp [isP, f0])
        clear f0
        go_upto_region 4 with fail
        refine wp_region_quiet_below (by kernel_rfl) (by kernel_rfl) ?_
        repeat (first | go_big_quiet_step (fail) | quiet_step (fail))
        refine wpQuiet_nil ?_
        intro _ hw'
        obtain ⟨⟨dq, osq⟩, hw''⟩ := hw'
        subst hw''
        go_wp2_with fail
        go_roundg (L.length - (i + 1))
        case measure => have := Hn.out; omega
        case rel => exact ⟨i + 1, rfl, by omega, by go_num, fun j hj y hy => (by
          by_cases e : j = i
          · subst e; rw [HX.out] at hy; cases hy; exact HF.out
          · exact HAll.out j (by omega) y hy), bthen HBl.out (below_regrown _ _ _)⟩
    · obtain rfl : i = L.length := by omega
      have HE := Lib.hid (show atV (atI a n L) = -1 by unfold atI; rw [fi_none HAll.out]; rfl)
      go_wp2_with fail
      go_ret
      exact ⟨ret_int HE.out.symm, bthen HBB.out HBl.out⟩
end Go.Proofs.YtbacahoihkpkpaaDoor
