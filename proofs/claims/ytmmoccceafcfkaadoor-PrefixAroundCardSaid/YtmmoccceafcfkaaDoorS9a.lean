/- math/bits.Len of a small number; slices.nextPowerOfTwo; (*slices.xorshift).Next. -/
import Derived.Test.YtmmoccceafcfkaaDoorS2
import Derived.Test.YtmmoccceafcfkaaDoorA3
import Derived.Deep.CutBlock
import Derived.Sort.LotD5
namespace Go.Proofs.YtmmoccceafcfkaaDoor
open Go.RowKit Go.Shelf Go.Sort

set_option maxRecDepth 100000 in
set_option maxHeartbeats 400000 in
theorem Len64_small (x : Int) (w : World) (h0 : 0 ≤ x) (h1 : x < 256) :
    Calls Tryd.prog 111 #[.int .u64 x] w fun e w' => e = .returned (.int .i64 (blen x)) ∧ w = w' := by
  have t1 : decide (4294967296 ≤ x) = false := by simp; omega
  have t2 : decide (65536 ≤ x) = false := by simp; omega
  have t3 : decide (256 ≤ x) = false := by simp; omega
  have bb2 := blen_bd x (by omega)
  go_enter Tryd.func111, Tryd.ntmps111
  go_wp2_with fail
  go_ret
  refine ⟨ret_int ?_, rfl⟩
  rw [len8_of _ (by decide +kernel) (by decide +kernel) _ h0 h1, wrap_small (blen _) (by omega) (by omega), wrap_small _ (by omega) (by omega)]
set_option maxHeartbeats 400000 in
theorem Len_small (x : Int) (w : World) (h0 : 0 ≤ x) (h1 : x < 256) :
    Calls Tryd.prog 109 #[.int .u64 x] w fun e w' => e = .returned (.int .i64 (blen x)) ∧ w = w' := by
  have wr : IntKind.u64.wrap x = x := by simp [IntKind.wrap, IntKind.bits, IntKind.signed]; omega
  go_enter Tryd.func109, Tryd.ntmps109
  go_wp2_with (go_at_call 111; refine (Len64_small _ _ h0 h1).mono ?_; rintro e w' ⟨rfl, rfl⟩)
  go_ret
  exact ⟨rfl, rfl⟩
theorem blen_mid (n : Nat) (h1 : 8 ≤ n) (h2 : n ≤ 60) : blen n = 4 ∧ n < 16 ∨ blen n = 5 ∧ 16 ≤ n ∧ n < 32 ∨ blen n = 6 ∧ 32 ≤ n := by
  have key : ∀ k : Fin 61, 8 ≤ k.val → (blen k.val = 4 ∧ k.val < 16 ∨ blen k.val = 5 ∧ 16 ≤ k.val ∧ k.val < 32 ∨ blen k.val = 6 ∧ 32 ≤ k.val) := by decide +kernel
  exact key ⟨n, by omega⟩ h1
set_option maxHeartbeats 400000 in
theorem npot_any (n : Nat) (w : World) (h1 : 8 ≤ n) (h2 : n ≤ 60) :
    Calls Tryd.prog 134 #[.int .i64 n] w fun e w' => (∃ M : Nat, e = .returned (.int .u64 M) ∧ 1 ≤ M ∧ M ≤ 2 * n) ∧ w = w' := by
  have HL := Lib.hid (fun W => Len_small n W (by omega) (by omega))
  have wr : IntKind.u64.wrap (n : Int) = n := by simp [IntKind.wrap, IntKind.bits, IntKind.signed]; omega
  rcases blen_mid n h1 h2 with ⟨hb, hc⟩ | ⟨hb, hc, hd⟩ | ⟨hb, hc⟩
  · rw [hb] at HL
    go_enter Tryd.func134, Tryd.ntmps134
    go_wp2_with (go_at_call 109; refine (HL.out _).mono ?_; rintro e w' ⟨rfl, rfl⟩)
    go_ret
    exact ⟨⟨16, rfl, by omega, by omega⟩, rfl⟩
  · rw [hb] at HL
    go_enter Tryd.func134, Tryd.ntmps134
    go_wp2_with (go_at_call 109; refine (HL.out _).mono ?_; rintro e w' ⟨rfl, rfl⟩)
    go_ret
    exact ⟨⟨32, rfl, by omega, by omega⟩, rfl⟩
  · rw [hb] at HL
    go_enter Tryd.func134, Tryd.ntmps134
    go_wp2_with (go_at_call 109; refine (HL.out _).mono ?_; rintro e w' ⟨rfl, rfl⟩)
    go_ret
    exact ⟨⟨64, rfl, by omega, by omega⟩, rfl⟩
/-- a shift to the left, a shift to the right, each laid over: what comes out is a number of 64 bits -/
theorem xs_left (X k : Nat) (hX : X < 18446744073709551616) : ∃ Y : Nat, Y < 18446744073709551616 ∧ bits .xor .u64 (X : Int) (IntKind.u64.wrap ((X : Int) * (k : Int))) = (Y : Int) := by
  have h2 : X * k % 18446744073709551616 < 18446744073709551616 := Nat.mod_lt _ (by omega)
  refine ⟨X ^^^ (X * k % 18446744073709551616), Nat.xor_lt_two_pow (n := 64) hX h2, ?_⟩
  rw [← bits_xor_u64_nat _ _ hX h2, IntKind.wrap_u64, show ((X * k % 18446744073709551616 : Nat) : Int) = ((X : Int) * (k : Int) % 18446744073709551616) by simp]
theorem xs_right (X k : Nat) (hX : X < 18446744073709551616) : ∃ Y : Nat, Y < 18446744073709551616 ∧ bits .xor .u64 (X : Int) ((X : Int) / (k : Int)) = (Y : Int) := by
  have h2 : X / k < 18446744073709551616 := Nat.lt_of_le_of_lt (Nat.div_le_self _ _) hX
  refine ⟨X ^^^ (X / k), Nat.xor_lt_two_pow (n := 64) hX h2, ?_⟩
  rw [← bits_xor_u64_nat _ _ hX h2, show ((X / k : Nat) : Int) = ((X : Int) / (k : Int)) by simp]
/-- a random number's cell -/
structure RB (w : World) (c X : Nat) : Prop where
  c0 : w.cell? ⟨c, 0, none⟩ = some (.int .u64 X)
  f0 : w.frozen? ⟨c, 0, none⟩ = false
theorem RB.put {w : World} {c X : Nat} (h : RB w c X) (Y : Nat) : RB (w.setCell ⟨c, 0, none⟩ (.int .u64 Y)).drew c Y :=
  ⟨World.cell?_setCell_same' _ _ _ (by rw [h.c0]; rfl), by show (w.setCell ⟨c, 0, none⟩ (.int .u64 Y)).frozen? _ = _; rw [World.frozen?_setCell]; exact h.f0⟩
theorem kb_put (w : World) (c : Nat) (v : Value) : KB [c] w (w.setCell ⟨c, 0, none⟩ v).drew := (KB.setCell _ _ _ _ _ (by simp)).drew
set_option maxRecDepth 100000 in
set_option maxHeartbeats 4000000 in
theorem Next_any (c X : Nat) (w : World) (hX : X < 18446744073709551616) (h : RB w c X) :
    Calls Tryd.prog 135 #[.pointer (some ⟨c, 0, none⟩)] w fun e w' => ∃ Y : Nat, e = .returned (.int .u64 Y) ∧ Y < 18446744073709551616 ∧ RB w' c Y ∧ KB [c] w w' := by
  obtain ⟨A, hA, eA⟩ := xs_left X 8192 hX
  obtain ⟨B, hB, eB⟩ := xs_right A 128 hA
  obtain ⟨C, hC, eC⟩ := xs_left B 131072 hB
  have e1 : bits .xor .u64 (X : Int) (IntKind.u64.wrap ((X : Int) * 8192)) = (A : Int) := eA
  have e2 : bits .xor .u64 (A : Int) ((A : Int) / 128) = (B : Int) := eB
  have e3 : bits .xor .u64 (B : Int) (IntKind.u64.wrap ((B : Int) * 131072)) = (C : Int) := eC
  have H0 := Lib.hid h
  clear h eA eB eC
  go_enter Tryd.func135, Tryd.ntmps135
  go_upto_region 1 with fail
  go_cut [] (fun wx => Hid (RB wx c A) ∧ Hid (KB [c] w wx))
  case first => as_aux_lemma =>
    have c0 := H0.out.c0
    have f0 := H0.out.f0
    go_region
    go_wp2_with fail
    go_meet
    exact ⟨H0.out.put _, kb_put _ _ _⟩
  case rest =>
  obtain ⟨H1, K1⟩ := hcut
  clear H0 e1
  go_upto_region 2 with fail
  go_cut [] (fun wx => Hid (RB wx c B) ∧ Hid (KB [c] w wx))
  case first => as_aux_lemma =>
    have c0 := H1.out.c0
    have f0 := H1.out.f0
    go_region
    go_wp2_with fail
    go_meet
    exact ⟨H1.out.put _, K1.out.trans (kb_put _ _ _)⟩
  case rest =>
  obtain ⟨H2, K2⟩ := hcut
  clear H1 K1 e2
  go_upto_region 3 with fail
  go_cut [] (fun wx => Hid (RB wx c C) ∧ Hid (KB [c] w wx))
  case first => as_aux_lemma =>
    have c0 := H2.out.c0
    have f0 := H2.out.f0
    go_region
    go_wp2_with fail
    go_meet
    exact ⟨H2.out.put _, K2.out.trans (kb_put _ _ _)⟩
  case rest =>
  obtain ⟨H3, K3⟩ := hcut
  clear H2 K2 e3
  have c0 := H3.out.c0
  go_wp2_with fail
  go_ret
  exact ⟨C, rfl, hC, H3.out, K3.out⟩
end Go.Proofs.YtmmoccceafcfkaaDoor
