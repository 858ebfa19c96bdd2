/- The reference: sum, Time, At, Forget, Since. -/
import Derived.Test.YtahkhecfnimdbaaDoorV1
namespace Go.Proofs.YtahkhecfnimdbaaDoor
open Go.RowKit Go.Maps

abbrev RN (base : Option Addr) (len cap : Nat) (now lost : Int) : Value := .agg #[.slice base len cap, .int .i64 now, .int .i64 lost]
abbrev rnObj (base : Option Addr) (len cap : Nat) (now lost : Int) : Obj := .cells #[.slice base len cap, .int .i64 now, .int .i64 lost] 47
abbrev rnNil : Obj := .cells #[.slice none 0 0, .int .i64 0, .int .i64 0] 47

set_option maxHeartbeats 400000 in
theorem sum_any (x y : Int) (w : World) (x0 : 0 ≤ x) (x1 : x ≤ 2147483647) (y0 : 0 ≤ y) (y1 : y ≤ 9223372036854775807) :
    Calls Tryd.prog 46 #[.int .i64 x, .int .i64 y] w fun e w' => e = .returned (.int .i64 (addC x y)) ∧ w = w' := by
  by_cases h : 2147483647 - x < y
  · have t1 : decide (2147483647 - x < y) = true := by simp [h]
    have HF := Lib.hid (show addC x y = 2147483647 by unfold addC; rw [if_pos (by omega)])
    go_enter Tryd.func46, Tryd.ntmps46
    go_wp2
    go_ret
    exact ⟨ret_int HF.out.symm, rfl⟩
  · have t1 : decide (2147483647 - x < y) = false := by simp; omega
    have HF := Lib.hid (show addC x y = x + y by unfold addC; split <;> omega)
    go_enter Tryd.func46, Tryd.ntmps46
    go_wp2
    go_ret
    exact ⟨ret_int HF.out.symm, rfl⟩
def timeB (t : Int) : Bool := decide (0 ≤ t) && decide (t ≤ 4611686018427387904)
set_option maxHeartbeats 400000 in
theorem Time_any (t : Int) (w : World) :
    Calls Tryd.prog 45 #[.int .i64 t] w fun e w' => e = .returned (.bool (timeB t)) ∧ w = w' := by
  by_cases h : 0 ≤ t
  · have t1 : decide (0 ≤ t) = true := by simp [h]
    have HF := Lib.hid (show timeB t = decide (t ≤ 4611686018427387904) by unfold timeB; rw [t1]; rfl)
    go_enter Tryd.func45, Tryd.ntmps45
    go_wp2
    go_ret
    exact ⟨ret_bool HF.out.symm, rfl⟩
  · have t1 : decide (0 ≤ t) = false := by simp; omega
    have HF := Lib.hid (show timeB t = false by unfold timeB; rw [t1]; rfl)
    go_enter Tryd.func45, Tryd.ntmps45
    go_wp2
    go_ret
    exact ⟨ret_bool HF.out.symm, rfl⟩

/-- At as a number -/
def atN (f a : Int) (T : List Rec) : Int := match atI f a T with
  | some i => (i : Int)
  | none => -1
def atRel (T : List Rec) (f a : Int) (W : World) (n : Nat) (v : Value) (wr : World) : Prop :=
  ∃ i : Nat, n = T.length - i ∧ i ≤ T.length ∧ v = .int .i64 i ∧ (∀ (j : Nat), j < i → ∀ s, T[j]? = some s → atR f a s = false) ∧ wr = W

set_option maxHeartbeats 4000000 in
set_option maxRecDepth 100000 in
theorem At_any (base : Option Addr) (g cap : Nat) (T : List Rec) (now lost f a : Int) (w : World) (hS : SL w base g T) (hlen : T.length < 1000000) :
    Calls Tryd.prog 19 #[RN base T.length cap now lost, .int .i64 f, .int .u32 a] w fun e w' => e = .returned (.int .i64 (atN f a T)) ∧ w' = w.alloc (rnObj base T.length cap now lost) := by
  have HS := Lib.hid (hS.below (below_k w (rnObj base T.length cap now lost)))
  have hgl := hS.lt
  clear hS
  go_enter Tryd.func19, Tryd.ntmps19
  go_wp2_with fail
  go_loopg [7] T.length (atRel T f a (w.alloc (rnObj base T.length cap now lost)))
  case atStart => exact ⟨0, rfl, by omega, rfl, fun j hj => by omega, rfl⟩
  case round =>
    obtain ⟨i, hn, hil, rfl, hno, rfl⟩ := hrel
    have Hn := Lib.hid hn
    have HNo := Lib.hid hno
    clear hn hno
    by_cases hlt : i < T.length
    · obtain ⟨r, hr⟩ : ∃ r, T[i]? = some r := ⟨_, List.getElem?_eq_getElem hlt⟩
      obtain ⟨rfl, z0, z1, _⟩ := HS.out.row i r hr
      have HR := Lib.hid hr
      clear hr
      by_cases h1 : r.face = f
      · have t1 : (r.face == f) = true := by simp [h1]
        by_cases h2 : r.addr = a
        · have t2 : (r.addr == a) = true := by simp [h2]
          have HA := Lib.hid (show atN f a T = i by unfold atN; rw [atI_of HR.out (atR_iff.2 ⟨h1, h2⟩) HNo.out])
          clear h1 h2
          go_wp2_with fail
          go_ret
          exact ⟨ret_int HA.out.symm, rfl⟩
        · have t2 : (r.addr == a) = false := by simpa using h2
          have HF := Lib.hid (show atR f a r = false by simp [atR, h2])
          clear h1 h2
          go_wp2_with fail
          go_roundg (T.length - (i + 1))
          case measure => have := Hn.out; omega
          case rel => exact ⟨i + 1, rfl, by omega, by go_num, fun j hj s hs => by
            by_cases e : j = i
            · subst e; rw [HR.out] at hs; cases hs; exact HF.out
            · exact HNo.out j (by omega) s hs, rfl⟩
      · have t1 : (r.face == f) = false := by simpa using h1
        have HF := Lib.hid (show atR f a r = false by simp [atR, h1])
        clear h1
        go_wp2_with fail
        go_roundg (T.length - (i + 1))
        case measure => have := Hn.out; omega
        case rel => exact ⟨i + 1, rfl, by omega, by go_num, fun j hj s hs => by
          by_cases e : j = i
          · subst e; rw [HR.out] at hs; cases hs; exact HF.out
          · exact HNo.out j (by omega) s hs, rfl⟩
    · obtain rfl : i = T.length := by omega
      have HA := Lib.hid (show atN f a T = -1 by unfold atN; rw [atI_not (fun j s hs => HNo.out j (List.getElem?_eq_some_iff.1 hs).1 s hs)])
      go_wp2_with fail
      go_ret
      exact ⟨ret_int HA.out.symm, rfl⟩
end Go.Proofs.YtahkhecfnimdbaaDoor
