/- Order; the reference's Right, Order. -/
import Derived.Test.YtkigoihdmojpfaaA1
namespace Go.Proofs.Ytkigoihdmojpfaa
open Go.RowKit

theorem wrap_small (x : Int) (h0 : 0 ≤ x) (h1 : x ≤ 100) : wrap64 x = x := IntWalk.wrap64_in _ ⟨by omega, by omega⟩
theorem bthen {w w1 w' : World} (h1 : Below w.heap.size w w1) (h2 : Below w1.heap.size w1 w') : Below w.heap.size w w' := h1.trans (h2.mono h1.size)

def bitI (a i : Int) : Int := if i < 0 ∨ 32 ≤ i then 0 else a / 2 ^ (31 - i).toNat % 2

theorem bit_fin (a i : Int) (h0 : 0 ≤ a) (h1 : a < 4294967296) (c1 : 0 ≤ i) (c2 : i < 32) : wrap64 (bits BinOp.and IntKind.u32 (a / 2 ^ (31 - i).toNat) 1) = bitI a i := by
  have hp : (0 : Int) < 2 ^ (31 - i).toNat := Int.pow_pos (by omega)
  have d0 : 0 ≤ a / 2 ^ (31 - i).toNat := Int.ediv_nonneg h0 (by omega)
  have d1 : a / 2 ^ (31 - i).toNat ≤ a := Int.ediv_le_self _ h0
  unfold bitI
  rw [if_neg (by omega), u32_and _ 1 d0 (by omega) (by omega) (by omega)]
  generalize a / 2 ^ (31 - i).toNat = d at *
  rw [show (1 : Int).toNat = 1 by rfl, nat_mask1, wrap_small _ (by omega) (by omega)]
  omega

def cmpI (x y : Int) : Int := if x < y then -1 else if y < x then 1 else 0

set_option maxHeartbeats 400000 in
theorem CompareA (x y : Int) (w : World) :
    Calls Try.prog 68 #[.int .u32 x, .int .u32 y] w fun e w' => e = .returned (.int .i64 (cmpI x y)) ∧ w = w' := by
  by_cases c1 : x < y
  · have t1 : decide (x < y) = true := by simp; omega
    go_enter Try.func68, Try.ntmps68
    go_wp2
    go_ret
    exact ⟨ret_int (by simp [cmpI, c1]), rfl⟩
  · have t1 : decide (x < y) = false := by simp; omega
    by_cases c2 : y < x
    · have t2 : decide (y < x) = true := by simp; omega
      go_enter Try.func68, Try.ntmps68
      go_wp2
      go_ret
      exact ⟨ret_int (by unfold cmpI; rw [if_neg (by omega), if_pos c2]), rfl⟩
    · have t2 : decide (y < x) = false := by simp; omega
      go_enter Try.func68, Try.ntmps68
      go_wp2
      go_ret
      exact ⟨ret_int (by unfold cmpI; rw [if_neg (by omega), if_neg (by omega)]), rfl⟩
set_option maxHeartbeats 400000 in
theorem CompareI (x y : Int) (w : World) :
    Calls Try.prog 69 #[.int .i64 x, .int .i64 y] w fun e w' => e = .returned (.int .i64 (cmpI x y)) ∧ w = w' := by
  by_cases c1 : x < y
  · have t1 : decide (x < y) = true := by simp; omega
    go_enter Try.func69, Try.ntmps69
    go_wp2
    go_ret
    exact ⟨ret_int (by simp [cmpI, c1]), rfl⟩
  · have t1 : decide (x < y) = false := by simp; omega
    by_cases c2 : y < x
    · have t2 : decide (y < x) = true := by simp; omega
      go_enter Try.func69, Try.ntmps69
      go_wp2
      go_ret
      exact ⟨ret_int (by unfold cmpI; rw [if_neg (by omega), if_pos c2]), rfl⟩
    · have t2 : decide (y < x) = false := by simp; omega
      go_enter Try.func69, Try.ntmps69
      go_wp2
      go_ret
      exact ⟨ret_int (by unfold cmpI; rw [if_neg (by omega), if_neg (by omega)]), rfl⟩

def orI (x y : Int) : Int := if x = 0 then y else x
set_option maxHeartbeats 400000 in
theorem Or2 (b : Nat) (x y : Int) (w : World) (c0 : w.cell? ⟨b, 0, none⟩ = some (.int .i64 x)) (c1 : w.cell? ⟨b, 1, none⟩ = some (.int .i64 y)) :
    Calls Try.prog 59 #[.slice (some ⟨b, 0, none⟩) 2 2] w fun e w' => e = .returned (.int .i64 (orI x y)) ∧ w = w' := by
  by_cases hx : x = 0
  · subst hx
    by_cases hy : y = 0
    · subst hy
      go_enter Try.func59, Try.ntmps59
      go_wp2
      refine wp_loop_rounds 3 ?_
      rw [rounds_succ]
      go_wp2
      rw [rounds_succ]
      go_wp2
      rw [rounds_succ]
      go_wp2
      go_ret
      exact ⟨rfl, rfl⟩
    · have t2 : (y != 0) = true := by simpa using hy
      clear hy
      go_enter Try.func59, Try.ntmps59
      go_wp2
      refine wp_loop_rounds 3 ?_
      rw [rounds_succ]
      go_wp2
      rw [rounds_succ]
      go_wp2
      go_ret
      exact ⟨rfl, rfl⟩
  · have t1 : (x != 0) = true := by simpa using hx
    have H := Lib.hid hx
    clear hx
    go_enter Try.func59, Try.ntmps59
    go_wp2
    refine wp_loop_rounds 3 ?_
    rw [rounds_succ]
    go_wp2
    go_ret
    exact ⟨ret_int (by unfold orI; rw [if_neg H.out]), rfl⟩

def ordI (pa pn qa qn : Int) : Int := orI (cmpI pa qa) (cmpI pn qn)
set_option maxRecDepth 100000 in
set_option maxHeartbeats 400000 in
theorem Order_any (pa pn qa qn : Int) (w : World) :
    Calls Try.prog 62 #[.agg #[.int .u32 pa, .int .i64 pn], .agg #[.int .u32 qa, .int .i64 qn]] w fun e w' => e = .returned (.int .i64 (ordI pa pn qa qn)) ∧ Below w.heap.size w w' := by
  go_enter Try.func62, Try.ntmps62
  go_wp2_with fail
  go_region_held3 (fun w' => w'.cell? ⟨w.heap.size, 0, none⟩ = some (.int .u32 pa) ∧ w'.cell? ⟨w.heap.size, 1, none⟩ = some (.int .i64 pn) ∧ w'.cell? ⟨w.heap.size + 1, 0, none⟩ = some (.int .u32 qa) ∧ w'.cell? ⟨w.heap.size + 1, 1, none⟩ = some (.int .i64 qn))
    (go_keep)
    (first | (go_at_call 68; refine (CompareA _ _ _).mono ?_; rintro e w' ⟨rfl, rfl⟩) | (go_at_call 69; refine (CompareI _ _ _).mono ?_; rintro e w' ⟨rfl, rfl⟩) | (go_at_call 59; refine (Or2 _ (cmpI pa qa) (cmpI pn qn) _ (by simp [go_sem]) (by simp [go_sem])).mono ?_; rintro e w' ⟨rfl, rfl⟩))
  go_wp2
  go_ret
  exact ⟨rfl, ((((Below.refl _ _).alloc (Nat.le_refl _) _).alloc (by simp) _).alloc (by simp; omega) _).drew⟩
theorem bitI_bitB (a : Int) (i : Nat) (a0 : 0 ≤ a) (hi : i < 32) : bitI a i = if bitB a i = true then 1 else 0 := by
  unfold bitI bitB
  rw [if_neg (by omega), show (31 - (i : Int)).toNat = 31 - i by omega]
  obtain ⟨n, rfl⟩ := Int.eq_ofNat_of_zero_le a0
  rw [Int.toNat_natCast, Nat.testBit_eq_decide_div_mod_eq]
  have e : (n : Int) / 2 ^ (31 - i) = ((n / 2 ^ (31 - i) : Nat) : Int) := by norm_cast
  rw [e]
  generalize n / 2 ^ (31 - i) = x
  by_cases h : x % 2 = 1
  · simp [h]; omega
  · simp [h]; omega

theorem bitI_zero_iff (a : Int) (i : Nat) (a0 : 0 ≤ a) (hi : i < 32) : bitI a i = 0 ↔ bitB a i = false := by
  rw [bitI_bitB a i a0 hi]
  cases bitB a i <;> simp
/-- the document's order -/
def ordR (pa pn qa qn : Int) : Int := if pa = qa ∧ pn = qn then 0 else if pa < qa ∨ pa = qa ∧ pn < qn then -1 else 1
theorem ord_eq (pa pn qa qn : Int) : ordI pa pn qa qn = ordR pa pn qa qn := by
  unfold ordI ordR orI cmpI
  repeat' split
  all_goals omega
theorem div_pow_succ (a : Int) (m : Nat) : a / 2 ^ m / 2 = a / 2 ^ (m + 1) := by
  rw [Int.pow_succ, Int.ediv_ediv_of_nonneg (Int.le_of_lt (Int.pow_pos (by omega)))]

set_option maxHeartbeats 400000 in
theorem rBit_any (a i : Int) (w : World) (h0 : 0 ≤ a) (h1 : a < 4294967296) :
    Calls Try.prog 53 #[.int .u32 a, .int .i64 i] w fun e w' => e = .returned (.int .i64 (bitI a i)) ∧ w = w' := by
  by_cases c1 : i < 0
  · have t1 : decide (i < 0) = true := by simp; omega
    go_enter Try.func53, Try.ntmps53
    go_wp2
    go_ret
    exact ⟨ret_int (by simp [bitI, c1]), rfl⟩
  · have t1 : decide (i < 0) = false := by simp; omega
    by_cases c2 : 31 < i
    · have t2 : decide (31 < i) = true := by simp; omega
      go_enter Try.func53, Try.ntmps53
      go_wp2
      go_ret
      exact ⟨ret_int (by unfold bitI; rw [if_pos (by omega)]), rfl⟩
    · have t2 : decide (31 < i) = false := by simp; omega
      go_enter Try.func53, Try.ntmps53
      go_wp2
      go_loop [5, 6] (fun n k => ∃ j : Nat, j ≤ 31 ∧ i ≤ 31 - (j : Int) ∧ k = .int .i64 (31 - (j : Int)) ∧ n = .int .i64 (a / 2 ^ j)) (fun _ k => (intOf k - i).toNat)
      case atStart => exact ⟨0, by omega, by omega, rfl, by simp⟩
      case round =>
        obtain ⟨j, hj, hi, rfl, rfl⟩ := hrel
        have d0 : 0 ≤ a / 2 ^ j := Int.ediv_nonneg h0 (Int.le_of_lt (Int.pow_pos (by omega)))
        have d1 : a / 2 ^ j ≤ a := Int.ediv_le_self _ h0
        by_cases hlt : i < 31 - (j : Int)
        · have HS := Lib.hid (div_pow_succ a j)
          go_wp2
          go_round
          case rel => exact ⟨j + 1, by omega, by omega, by go_num, by rw [HS.out]⟩
          case measure => simp [intOf]; omega
        · go_wp2
          go_ret
          refine ⟨ret_int ?_, rfl⟩
          unfold bitI
          rw [if_neg (by omega), show (31 - i).toNat = j by omega]

set_option maxHeartbeats 400000 in
theorem rRight_any (a n : Int) (w : World) (h0 : 0 ≤ a) (h1 : a < 4294967296) :
    Calls Try.prog 38 #[.agg #[.int .u32 a, .int .i64 n]] w fun e w' => e = .returned (.bool (rightB a n)) ∧ Below w.heap.size w w' := by
  by_cases c1 : n < 0
  · have t1 : decide (n < 0) = true := by simp; omega
    have H := Lib.hid (show rightB a n = false by simp [rightB]; omega)
    go_enter Try.func38, Try.ntmps38
    go_wp2
    go_ret
    exact ⟨ret_bool H.out.symm, (Below.refl _ _).alloc (Nat.le_refl _) _⟩
  · have t1 : decide (n < 0) = false := by simp; omega
    by_cases c2 : 32 < n
    · have t2 : decide (32 < n) = true := by simp; omega
      have H := Lib.hid (show rightB a n = false by simp [rightB]; omega)
      go_enter Try.func38, Try.ntmps38
      go_wp2
      go_ret
      exact ⟨ret_bool H.out.symm, (Below.refl _ _).alloc (Nat.le_refl _) _⟩
    · have t2 : decide (32 < n) = false := by simp; omega
      have H := Lib.hid (right_bits a n h0 h1 (by omega) (by omega))
      go_enter Try.func38, Try.ntmps38
      go_wp2
      go_loop [3] (fun k => ∃ j : Nat, n ≤ j ∧ j ≤ 32 ∧ k = .int .i64 j ∧ ∀ i : Nat, n ≤ i → i < j → bitB a i = false) (fun k => (32 - intOf k).toNat)
      case atStart => exact ⟨n.toNat, by omega, by omega, by rw [Int.toNat_of_nonneg (by omega)], fun i h1 h2 => by omega⟩
      case round =>
        obtain ⟨j, hj0, hj1, rfl, hall⟩ := hrel
        have HA := Lib.hid hall
        clear hall
        by_cases hlt : j < 32
        · have HZ := Lib.hid (bitI_zero_iff a j h0 hlt)
          by_cases hb : bitI a j = 0
          · have tb : (bitI a j != 0) = false := by simp [hb]
            have HB := Lib.hid (HZ.out.1 hb)
            clear hb
            go_wp2_with (go_at_call 53; refine (rBit_any _ _ _ h0 h1).mono ?_; rintro e w' ⟨rfl, rfl⟩)
            go_round
            case rel => exact ⟨j + 1, by omega, by omega, by go_num, fun i g1 g2 => by
              by_cases hij : i = j
              · rw [hij]; exact HB.out
              · exact HA.out i g1 (by omega)⟩
            case measure => simp [intOf]; omega
          · have tb : (bitI a j != 0) = true := by simp [hb]
            have HB := Lib.hid (show rightB a n = false by
              rw [← Bool.not_eq_true, H.out]
              intro hh
              exact hb (HZ.out.2 (hh j hj0 hlt)))
            clear hb
            go_wp2_with (go_at_call 53; refine (rBit_any _ _ _ h0 h1).mono ?_; rintro e w' ⟨rfl, rfl⟩)
            go_ret
            exact ⟨ret_bool HB.out.symm, (Below.refl _ _).alloc (Nat.le_refl _) _⟩
        · have HB := Lib.hid (show rightB a n = true by
            rw [H.out]
            intro i g1 g2
            exact HA.out i g1 (by omega))
          go_wp2
          go_ret
          exact ⟨ret_bool HB.out.symm, (Below.refl _ _).alloc (Nat.le_refl _) _⟩

/-- two prefixes told apart, as the walk has it -/
theorem ordR_0 {pa pn qa qn : Int} (h : pa = qa ∧ pn = qn) : ordR pa pn qa qn = 0 := by unfold ordR; rw [if_pos h]

set_option maxHeartbeats 400000 in
theorem rOrder_any (pa pn qa qn : Int) (w : World) :
    Calls Try.prog 57 #[.agg #[.int .u32 pa, .int .i64 pn], .agg #[.int .u32 qa, .int .i64 qn]] w fun e w' => e = .returned (.int .i64 (ordR pa pn qa qn)) ∧ Below w.heap.size w w' := by
  have hB : ∀ o1 o2 : Obj, Below w.heap.size w ((w.alloc o1).alloc o2) := fun o1 o2 => ((Below.refl _ _).alloc (Nat.le_refl _) _).alloc (by simp) _
  have HB := Lib.hid hB
  clear hB
  by_cases e1 : pa = qa
  · subst e1
    by_cases e2 : pn = qn
    · subst e2
      go_enter Try.func57, Try.ntmps57
      go_wp2
      go_ret
      exact ⟨ret_int (by simp [ordR]), HB.out _ _⟩
    · have t1 : (pn == qn) = false := by simp [e2]
      by_cases e3 : pn < qn
      · have t2 : decide (pn < qn) = true := by simp [e3]
        have HF := Lib.hid (show ordR pa pn pa qn = -1 by unfold ordR; rw [if_neg (by omega), if_pos (by omega)])
        clear e2
        go_enter Try.func57, Try.ntmps57
        go_wp2
        go_ret
        exact ⟨ret_int HF.out.symm, HB.out _ _⟩
      · have t2 : decide (pn < qn) = false := by simp; omega
        have HF := Lib.hid (show ordR pa pn pa qn = 1 by unfold ordR; rw [if_neg (by omega), if_neg (by omega)])
        clear e2
        go_enter Try.func57, Try.ntmps57
        go_wp2
        go_ret
        exact ⟨ret_int HF.out.symm, HB.out _ _⟩
  · have t1 : (pa == qa) = false := by simp [e1]
    by_cases e3 : pa < qa
    · have t2 : decide (pa < qa) = true := by simp [e3]
      have HF := Lib.hid (show ordR pa pn qa qn = -1 by unfold ordR; rw [if_neg (by omega), if_pos (by omega)])
      clear e1
      go_enter Try.func57, Try.ntmps57
      go_wp2
      go_ret
      exact ⟨ret_int HF.out.symm, HB.out _ _⟩
    · have t2 : decide (pa < qa) = false := by simp; omega
      have HF := Lib.hid (show ordR pa pn qa qn = 1 by unfold ordR; rw [if_neg (by omega), if_neg (by omega)])
      clear e1
      go_enter Try.func57, Try.ntmps57
      go_wp2
      go_ret
      exact ⟨ret_int HF.out.symm, HB.out _ _⟩

end Go.Proofs.Ytkigoihdmojpfaa
