/- Contracts of the reference of layer 1: number, Head, Parse. -/
import Derived.Test.YtmmoccceafcfkaaDoorB6
namespace Go.Proofs.YtmmoccceafcfkaaDoor
open Go.RowKit

theorem drop_cons (s : ByteArray) (k : Nat) (h : k < s.size) : s.data.toList.drop k = s[k] :: s.data.toList.drop (k + 1) := by
  rw [List.drop_eq_getElem_cons (by simpa using h)]
  rfl
theorem drop_nil' (s : ByteArray) (k : Nat) (h : ¬ k < s.size) : s.data.toList.drop k = [] := List.drop_of_length_le (by simpa using h)

theorem ret_two {k j : IntKind} {a b c d : Int} (h : a = b) (g : c = d) : Ending.returned (.tuple #[.int k a, .int j c]) = .returned (.tuple #[.int k b, .int j d]) := by rw [h, g]

set_option maxRecDepth 100000 in
set_option maxHeartbeats 2000000 in
theorem number_any (s : ByteArray) (at' : Nat) (w : World) (hs : s.size ≤ 1000000000000000) (ha : at' ≤ s.size) :
    Calls Tryd.prog 90 #[.string s, .int .i64 at', .int .i64 255] w fun e w' => e = .returned (.tuple #[.int .i64 (numS (s.data.toList.drop at') 0 0).1, .int .i64 ((numS (s.data.toList.drop at') 0 0).2 : Nat)]) ∧ w = w' := by
  go_enter Tryd.func90, Tryd.ntmps90
  go_wp2_with fail
  go_loop [8, 9] (fun n m => ∃ (x : Int) (k : Nat), n = .int .i64 x ∧ m = .int .i64 k ∧ at' + k ≤ s.size ∧ 0 ≤ x ∧ x ≤ 255 ∧ numS (s.data.toList.drop (at' + k)) x k = numS (s.data.toList.drop at') 0 0) (fun _ m => s.size - at' - (intOf m).toNat)
  case atStart => exact ⟨0, 0, rfl, rfl, by omega, by omega, by omega, rfl⟩
  case round =>
    obtain ⟨x, k, rfl, rfl, hk, hx0, hx1, hn⟩ := hrel
    have HN := Lib.hid hn
    clear hn
    by_cases hlt : at' + k < s.size
    · have t0 : decide ((at' : Int) + (k : Int) < (s.size : Int)) = true := by simp; omega
      have HD := Lib.hid (drop_cons s (at' + k) hlt)
      have hc : (s[at' + k]).toNat < 256 := (s[at' + k]).toNat_lt
      by_cases h48 : 48 ≤ ((s[at' + k]).toNat : Int)
      · by_cases h57 : ((s[at' + k]).toNat : Int) ≤ 57
        · by_cases hbr : (0 < k ∧ x = 0) ∨ 255 < 10 * x + (((s[at' + k]).toNat : Int) - 48)
          · have HF := Lib.hid (show numS (s.data.toList.drop at') 0 0 = (x, k) by rw [← HN.out, HD.out, numS, if_pos ⟨h48, h57⟩, if_pos hbr])
            go_wp2_with fail
            all_goals (go_ret2; exact ⟨ret_two (by rw [HF.out] <;> first | done | (show _ = x; omega)) (by rw [HF.out]), rfl⟩)
          · have HF := Lib.hid (show numS (s.data.toList.drop (at' + (k + 1))) (10 * x + (((s[at' + k]).toNat : Int) - 48)) (k + 1) = numS (s.data.toList.drop at') 0 0 by rw [← HN.out, HD.out, numS, if_pos ⟨h48, h57⟩, if_neg hbr]; rfl)
            have t1 : decide (255 < 10 * x + (((s[at' + k]).toNat : Int) - 48)) = false := by simp; omega
            have hle : 10 * x + (((s[at' + k]).toNat : Int) - 48) ≤ 255 := by omega
            have hkx : k < 1 ∨ ¬ x = 0 := by omega
            rcases hkx with hk0 | hx
            · have t2 : decide ((0 : Int) < (k : Int)) = false := by simp; omega
              have t2' : decide (0 < k) = false := by simp; omega
              clear hbr
              go_wp2_with fail
              all_goals
                go_round
                case rel => exact ⟨_, k + 1, rfl, by go_num, by omega, by omega, by omega, HF.out⟩
                case measure => simp [intOf]; omega
            · have t2 : (x == 0) = false := by simpa using hx
              clear hbr hx
              go_wp2_with fail
              all_goals
                go_round
                case rel => exact ⟨_, k + 1, rfl, by go_num, by omega, by omega, by omega, HF.out⟩
                case measure => simp [intOf]; omega
        · have HF := Lib.hid (show numS (s.data.toList.drop at') 0 0 = (x, k) by rw [← HN.out, HD.out, numS, if_neg (by omega)])
          go_wp2_with fail
          all_goals (go_ret2; exact ⟨ret_two (by rw [HF.out] <;> first | done | (show _ = x; omega)) (by rw [HF.out]), rfl⟩)
      · have HF := Lib.hid (show numS (s.data.toList.drop at') 0 0 = (x, k) by rw [← HN.out, HD.out, numS, if_neg (by omega)])
        go_wp2_with fail
        all_goals (go_ret2; exact ⟨ret_two (by rw [HF.out] <;> first | done | (show _ = x; omega)) (by rw [HF.out]), rfl⟩)
    · have HF := Lib.hid (show numS (s.data.toList.drop at') 0 0 = (x, k) by rw [← HN.out, drop_nil' s (at' + k) hlt, numS])
      go_wp2_with fail
      all_goals (go_ret2; exact ⟨ret_two (by rw [HF.out] <;> first | done | (show _ = x; omega)) (by rw [HF.out]), rfl⟩)

theorem headF_succ (s : List UInt8) (f : Nat) (first : Bool) (a : Nat) (n : Int) : headF s (f + 1) first a n =
    if first = false ∧ ¬ (a < s.length ∧ s.getD a 0 = 46) then (0, a, false)
    else if (numS (s.drop (if first then a else a + 1)) 0 0).2 = 0 then (0, (if first then a else a + 1), false)
      else headF s f false ((if first then a else a + 1) + (numS (s.drop (if first then a else a + 1)) 0 0).2) (256 * n + (numS (s.drop (if first then a else a + 1)) 0 0).1) := rfl

def HeadPost (s : ByteArray) (at' : Nat) (w : World) (e : Ending) (w' : World) : Prop :=
  e = .returned (.tuple #[.int .u32 (headS s.data.toList at').1, .int .i64 ((headS s.data.toList at').2.1 : Nat), .bool (headS s.data.toList at').2.2]) ∧ w = w'

/-- 256^i -/
def p256 : Nat → Int | 0 => 1 | i + 1 => 256 * p256 i
theorem p256_le (k : Nat) (h : k ≤ 3) : p256 k ≤ 16777216 := by
  match k, h with
  | 0, _ => decide
  | 1, _ => decide
  | 2, _ => decide
  | 3, _ => decide
theorem getD_at (s : ByteArray) (k : Nat) (h : k < s.size) : s.data.toList.getD k 0 = s[k] := by
  have h' : k < s.data.toList.length := by simpa using h
  rw [List.getD_eq_getElem?_getD, List.getElem?_eq_getElem h']
  rfl
theorem ne46_t {c : UInt8} (h : ¬ c = 46) : (((c.toNat : Int)) != 46) = true := by
  have h1 : ¬ (c.toNat : Int) = 46 := fun e => h (UInt8.toNat_inj.1 (show c.toNat = (46 : UInt8).toNat by show c.toNat = 46; omega))
  simp [h1]
theorem ne46_f {c : UInt8} (h : c = 46) : (((c.toNat : Int)) != 46) = false := by
  subst h; rfl
theorem ret_three {a b : Int} {c d : Int} {x y : Bool} (h : a = b) (g : c = d) (k : x = y) : Ending.returned (.tuple #[.int .u32 a, .int .i64 c, .bool x]) = .returned (.tuple #[.int .u32 b, .int .i64 d, .bool y]) := by rw [h, g, k]

set_option maxRecDepth 100000 in
set_option maxHeartbeats 2000000 in
theorem Head_any (s : ByteArray) (at' : Nat) (w : World) (hs : s.size ≤ 1000000000000000) (ha : at' ≤ s.size) :
    Calls Tryd.prog 69 #[.string s, .int .i64 at'] w (HeadPost s at' w) := by
  go_enter Tryd.func69, Tryd.ntmps69
  go_wp2_with fail
  go_loop [1, 7, 8] (fun p n i => ∃ (x : Int) (k a : Nat), n = .int .i64 x ∧ i = .int .i64 k ∧ p = .int .i64 a ∧ k ≤ 4 ∧ a ≤ s.size ∧ 0 ≤ x ∧ x < p256 k ∧ headF s.data.toList (4 - k) (k == 0) a x = headS s.data.toList at') (fun _ _ i => 4 - (intOf i).toNat)
  case atStart => exact ⟨0, 0, at', rfl, rfl, rfl, by omega, ha, by omega, by decide, rfl⟩
  case round =>
    obtain ⟨x, k, a, rfl, rfl, rfl, hk, hal, hx0, hx1, hh⟩ := hrel
    have HH := Lib.hid hh
    have HX := Lib.hid hx1
    clear hh hx1
    by_cases hlt : k < 4
    · have hxb : x < 16777216 := by have := p256_le k (by omega); have := HX.out; omega
      obtain ⟨f, hf⟩ : ∃ f, 4 - k = f + 1 := ⟨3 - k, by omega⟩
      have hf2 : f = 4 - (k + 1) := by omega
      have HH2 := Lib.hid ((show headF s.data.toList (f + 1) (k == 0) a x = headS s.data.toList at' by rw [← hf]; exact HH.out).symm.trans (headF_succ _ _ _ _ _))
      have HF2 := Lib.hid hf2
      clear hf hf2 HH
      by_cases hk0 : k < 1
      · have t0 : decide ((0 : Int) < (k : Int)) = false := by simp; omega
        have tk : (k == 0) = true := by simp; omega
        have H3 := HH2.out
        rw [tk, if_neg (by simp)] at H3
        simp only [if_true] at H3
        clear HH2 tk
        have HN := Lib.hid (number_any s a)
        have H4 := Lib.hid H3
        clear H3
        go_wp2_with fail
        refine (HN.out _ hs hal).mono ?_
        rintro e w' ⟨rfl, rfl⟩
        have hb := numS_bd (s.data.toList.drop a) 0 0 (by omega) (by omega)
        have hm : a + (numS (s.data.toList.drop a) 0 0).2 ≤ s.size := by have := hb.2.2.2; simp at this; omega
        generalize numS (s.data.toList.drop a) 0 0 = r at *
        obtain ⟨p, m⟩ := r
        have hp0 : 0 ≤ p := hb.1
        have hp1 : p ≤ 255 := hb.2.1
        clear hb
        by_cases hm0 : m = 0
        · have t1 : ((m : Int) == 0) = true := by simp [hm0]
          have H5 := Lib.hid (H4.out.trans (if_pos hm0))
          clear hm0 H4
          go_wp2_with fail
          go_ret3
          refine ⟨?_, rfl⟩
          rw [H5.out]
          rfl
        · have t1 : ((m : Int) == 0) = false := by simp [hm0]
          have H5 := Lib.hid (H4.out.trans (if_neg hm0))
          clear hm0 H4
          go_wp2_with fail
          go_round
          case rel => exact ⟨_, k + 1, a + m, rfl, by go_num, by go_num, by omega, by omega, by omega, by have := HX.out; show _ < 256 * p256 k; omega, by rw [H5.out, HF2.out]; rfl⟩
          case measure => simp [intOf]; omega
      · have t0 : decide ((0 : Int) < (k : Int)) = true := by simp; omega
        have tk : (k == 0) = false := by simp; omega
        have H3 := HH2.out
        rw [tk] at H3
        simp only [Bool.false_eq_true, if_false, true_and] at H3
        clear HH2 tk
        by_cases has : a < s.size
        · have t1 : decide ((s.size : Int) ≤ (a : Int)) = false := by simp; omega
          have t1' : decide (s.size ≤ a) = false := by simp; omega
          have HG := getD_at s a has
          by_cases h46 : s[a] = 46
          · have t2 := ne46_f h46
            rw [if_neg (fun h => h ⟨by simpa using has, HG.trans h46⟩)] at H3
            clear HG h46
            have HN := Lib.hid (number_any s (a + 1))
            have H4 := Lib.hid H3
            clear H3
            go_wp2_with fail
            rw [show ((a : Int) + 1) = ((a + 1 : Nat) : Int) by omega]
            refine (HN.out _ hs (by omega)).mono ?_
            rintro e w' ⟨rfl, rfl⟩
            have hb := numS_bd (s.data.toList.drop (a + 1)) 0 0 (by omega) (by omega)
            have hm : a + 1 + (numS (s.data.toList.drop (a + 1)) 0 0).2 ≤ s.size := by have := hb.2.2.2; simp at this; omega
            generalize numS (s.data.toList.drop (a + 1)) 0 0 = r at *
            obtain ⟨p, m⟩ := r
            have hp0 : 0 ≤ p := hb.1
            have hp1 : p ≤ 255 := hb.2.1
            clear hb
            by_cases hm0 : m = 0
            · have t3 : ((m : Int) == 0) = true := by simp [hm0]
              have H5 := Lib.hid (H4.out.trans (if_pos hm0))
              clear hm0 H4
              go_wp2_with fail
              go_ret3
              refine ⟨?_, rfl⟩
              rw [H5.out]
              rfl
            · have t3 : ((m : Int) == 0) = false := by simp [hm0]
              have H5 := Lib.hid (H4.out.trans (if_neg hm0))
              clear hm0 H4
              go_wp2_with fail
              go_round
              case rel => exact ⟨_, k + 1, a + 1 + m, rfl, by go_num, by go_num, by omega, by omega, by omega, by have := HX.out; show _ < 256 * p256 k; omega, by rw [H5.out, HF2.out]; rfl⟩
              case measure => simp [intOf]; omega
          · have t2 := ne46_t h46
            rw [if_pos (fun h => h46 (HG.symm.trans h.2))] at H3
            clear HG h46
            have H4 := Lib.hid H3
            clear H3
            go_wp2_with fail
            go_ret3
            refine ⟨?_, rfl⟩
            rw [H4.out]
            rfl
        · have t1 : decide ((s.size : Int) ≤ (a : Int)) = true := by simp; omega
          have t1' : decide (s.size ≤ a) = true := by simp; omega
          rw [if_pos (fun h => has (by simpa using h.1))] at H3
          have H4 := Lib.hid H3
          clear H3
          go_wp2_with fail
          go_ret3
          refine ⟨?_, rfl⟩
          rw [H4.out]
          rfl
    · obtain rfl : k = 4 := by omega
      have hxx : x < 4294967296 := HX.out
      have HF := Lib.hid (show headS s.data.toList at' = (x, a, true) from HH.out.symm)
      go_wp2_with fail
      go_ret3
      refine ⟨?_, rfl⟩
      rw [HF.out]
      rfl
end Go.Proofs.YtmmoccceafcfkaaDoor
