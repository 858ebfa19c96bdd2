/- TrieNone: the walk. -/
import Derived.Test.YtbacahoihkpkpaaDoorT34
import Derived.Test.YtbacahoihkpkpaaDoorT30
import Derived.Deep.LoopGhost
import Derived.Deep.DeepCutAuto
import Derived.Deep.CutBlock
import Derived.Outline
import Derived.IntWalk
namespace Go.Proofs.YtbacahoihkpkpaaDoor
open Go.RowKit Go.Shelf Go.Maps

theorem Copy_nil (w : World) : Calls Tryd.prog 31 #[.pointer none] w fun e w' => e = .returned (.pointer none) ∧ w = w' := by
  go_enter Tryd.func31, Tryd.ntmps31
  go_wp2_with (go_at_call 34; with_reducible refine (none_n _).mono ?_; rintro e w' ⟨rfl, rfl⟩)
  go_ret
  exact ⟨rfl, rfl⟩
theorem Find_nil' (a : Int) (w : World) : Calls Tryd.prog 11 #[.pointer none, .int .u32 a] w fun e w' => e = .returned (.tuple #[.agg #[.int .u32 0, .int .i64 0], .int .i64 0, .bool false]) ∧ Below w.heap.size w w' := Find_nil a w
/-- a function value that tells rows, against the same rows -/
theorem rows_told {W : World} {B : Nat} {v v' : Value} {L : List (Key × Int)} (h : Told W B v L) (h' : RSl W v' L) (hL : L.length < 1000000) (hlk : ∀ x ∈ L, x.1.length ≤ 32) (many : Int) :
    Calls Tryd.prog 15 #[v, v', .int .i64 many] W fun e w' => e = .returned (.bool true) ∧ Below W.heap.size W w' := by
  obtain ⟨b, g, o, cap, base, rfl, _, h2, h3, _⟩ := h.ex
  obtain ⟨base', g', o', cap', rfl, k1, _⟩ := h'.ex
  exact rows_same b L base base' g g' o o' cap cap' many W hL h2 h3 k1 hlk
theorem rows_none {W : World} {B : Nat} {v : Value} (h : Told W B v []) (many : Int) :
    Calls Tryd.prog 15 #[v, .slice none 0 0, .int .i64 many] W fun e w' => e = .returned (.bool true) ∧ Below W.heap.size W w' :=
  rows_told h ⟨none, 0, 0, 0, rfl, RL.none (by obtain ⟨b, g, o, cap, base, _, _, h2, _⟩ := h.ex; have := (Array.getElem?_eq_some_iff.1 h2).1; omega) 0, by simp⟩ (by simp) (fun x hx => by cases hx) many

theorem nn_old {Z : World} {q : Nat} {t : TT} {n : Nat} {u : Int} (hl : t.rows.length = n) (hg : t.get (kk 0) = some u) (v : Int) (W : World) (h : TW Z W q t) :
    Calls Tryd.prog 14 #[.pointer (some ⟨q, 0, none⟩), .agg #[.int .u32 0, .int .i64 20], .int .i64 v] W fun e w' => e = .returned (.tuple #[.int .i64 u, .bool true, .int .i64 0]) ∧ ∃ t', TW Z w' q t' ∧ t'.rows.length = n := by
  obtain ⟨k1, k2, k3⟩ := kk_ok (j := 0) (by omega)
  have hp := Put_old q t (kk 0) u v W h.st h.rel k3 hg
  rw [k1, k2] at hp
  refine hp.mono fun e w' ⟨h1, t', h2, h3⟩ => ⟨h1, t', h.went h2, ?_⟩
  obtain ⟨i, hi, hx⟩ := List.mem_iff_getElem.1 ((TT.get_iff h.st.wf _ _).1 hg)
  rw [putR_set h.st.wf (h.went h2).st.wf (i := i) (u := u) (by rw [List.getElem?_eq_getElem hi, hx]) h3, List.length_set, hl]
theorem nn_last {Z : World} {q : Nat} {t : TT} {N : Nat} (hk : KKs t N) (hN0 : 0 < N) (hN : N ≤ 512) (v : Int) (W : World) (h : TW Z W q t) :
    Calls Tryd.prog 14 #[.pointer (some ⟨q, 0, none⟩), .agg #[.int .u32 4294963200, .int .i64 20], .int .i64 v] W fun e w' => e = .returned (.tuple #[.int .i64 0, .bool false, .int .i64 (if N = 512 then 3 else 0)]) ∧ ∃ t', TW Z w' q t' ∧ t'.rows.length = min 512 (N + 1) ∧ ∃ u, t'.get (kk 0) = some u := by
  obtain ⟨k1, k2, k3⟩ := kk_ok (j := 1048575) (by omega)
  have hno := hk.no h.st.wf (k := 1048575) (by omega) (by omega)
  have hz := hk.zero h.st.wf hN0
  by_cases e : N = 512
  · have hp := Put_long q t (kk 1048575) v W h.st h.rel k3 hno (by rw [hk.len]; omega)
    rw [k1, k2] at hp
    rw [if_pos e]
    exact hp.mono fun e' w' ⟨h1, h2⟩ => ⟨h1, t, h.below h2, by rw [hk.len]; omega, hz⟩
  · have hp := putC Z q t (kk 1048575) 4294963200 20 v k1 k2 W h k3 hno (by rw [hk.len]; omega)
    rw [if_neg e]
    refine hp.mono fun e' w' ⟨h1, t', h2, h3, _⟩ => ⟨h1, t', h2, ?_, ?_⟩
    · rw [putR_ins h.st.wf h2.st.wf k3 hno h3, insR_len, hk.len]; omega
    · obtain ⟨u, hu⟩ := hz
      refine ⟨u, (TT.get_iff h2.st.wf _ _).2 ((h3 _ _).2 (.inr ⟨fun e0 => ?_, (TT.get_iff h.st.wf _ _).1 hu⟩))⟩
      have := kk_inj (i := 0) (j := 1048575) (by omega) (by omega) e0
      omega

/-- the loop of TrieNone -/
def nnRel (w0 : World) (q N : Nat) (m : Nat) (v : Value) (wr : World) : Prop :=
  ∃ (i : Nat) (t : TT), m = N - i ∧ i ≤ N ∧ v = .int .i64 i ∧ TW w0 wr q t ∧ KKs t i

set_option maxRecDepth 100000 in
set_option maxHeartbeats 8000000 in
theorem TrieNone_any (w : World) (hR : RelsAt w) (what pa pn val a more : Int) (N : Nat) (hN : (N : Int) = 511 + more) (hm0 : -1 ≤ more) (hm1 : more ≤ 1) :
    Calls Tryd.prog 8 #[.agg #[.int .i64 what, .int .u32 pa, .int .i64 pn, .int .i64 val], .int .u32 a, .int .i64 more] w fun e w' => e = .returned (.bool true) ∧ Below w.heap.size w w' := by
  have t1 : decide (more < -1) = false := by (simp; omega)
  have t2 : decide (1 < more) = false := by (simp; omega)
  have b0 : Below w.heap.size w (w.alloc (.cells #[.int .i64 what, .int .u32 pa, .int .i64 pn, .int .i64 val] 61)) := (Below.refl _ w).alloc (Nat.le_refl _) _
  have c0 : (w.alloc (.cells #[.int .i64 what, .int .u32 pa, .int .i64 pn, .int .i64 val] 61)).cell? ⟨w.heap.size, 0, none⟩ = some (.int .i64 what) := by simp [go_sem]
  have c1 : (w.alloc (.cells #[.int .i64 what, .int .u32 pa, .int .i64 pn, .int .i64 val] 61)).cell? ⟨w.heap.size, 1, none⟩ = some (.int .u32 pa) := by simp [go_sem]
  have c2 : (w.alloc (.cells #[.int .i64 what, .int .u32 pa, .int .i64 pn, .int .i64 val] 61)).cell? ⟨w.heap.size, 2, none⟩ = some (.int .i64 pn) := by simp [go_sem]
  have c3 : (w.alloc (.cells #[.int .i64 what, .int .u32 pa, .int .i64 pn, .int .i64 val] 61)).cell? ⟨w.heap.size, 3, none⟩ = some (.int .i64 val) := by simp [go_sem]
  have HCell := Lib.hid (show ∀ W', Below (w.alloc (.cells #[.int .i64 what, .int .u32 pa, .int .i64 pn, .int .i64 val] 61)).heap.size (w.alloc (.cells #[.int .i64 what, .int .u32 pa, .int .i64 pn, .int .i64 val] 61)) W' → W'.cell? ⟨w.heap.size, 0, none⟩ = some (.int .i64 what) ∧ W'.cell? ⟨w.heap.size, 1, none⟩ = some (.int .u32 pa) ∧ W'.cell? ⟨w.heap.size, 2, none⟩ = some (.int .i64 pn) ∧ W'.cell? ⟨w.heap.size, 3, none⟩ = some (.int .i64 val) from fun W' h => ⟨cellB h c0, cellB h c1, cellB h c2, cellB h c3⟩)
  have HR := Lib.hid (hR.below b0)
  have HB0 := Lib.hid b0
  have HNn := Lib.hid hN
  clear hR b0 c0 c1 c2 c3 hN
  go_enter Tryd.func8, Tryd.ntmps8
  go_upto_region 4 with fail
  obtain ⟨c0, c1, c2, c3⟩ := HCell.out _ (Below.refl _ _)
  generalize (w.alloc (.cells #[.int .i64 what, .int .u32 pa, .int .i64 pn, .int .i64 val] 61)) = X at *
  have HB := Lib.hid (Below.refl X.heap.size X)
  go_upto_region 8 with (first
    | (go_at_call 14; with_reducible refine (Put_nil pa pn val _).mono ?_; rintro e w2 ⟨rfl, hb⟩; have HB := Lib.hid (bthen HB.out hb); clear hb c0 c1 c2 c3; obtain ⟨c0, c1, c2, c3⟩ := HCell.out _ HB.out)
    | (go_at_call 19; with_reducible refine (Take_nil pa pn _).mono ?_; rintro e w2 ⟨rfl, hb⟩; have HB := Lib.hid (bthen HB.out hb); clear hb c0 c1 c2 c3; obtain ⟨c0, c1, c2, c3⟩ := HCell.out _ HB.out)
    | (go_at_call 20; with_reducible refine (Get_nil pa pn _).mono ?_; rintro e w2 ⟨rfl, hb⟩; have HB := Lib.hid (bthen HB.out hb); clear hb c0 c1 c2 c3; obtain ⟨c0, c1, c2, c3⟩ := HCell.out _ HB.out)
    | (go_at_call 11; with_reducible refine (Find_nil' a _).mono ?_; rintro e w2 ⟨rfl, hb⟩; have HB := Lib.hid (bthen HB.out hb); clear hb c0 c1 c2 c3; obtain ⟨c0, c1, c2, c3⟩ := HCell.out _ HB.out)
    | fail)
  have HB := Lib.hid (HB.out.alloc HB.out.size (.cells #[.int .u32 0, .int .i64 0] 26))
  clear c0 c1 c2 c3
  obtain ⟨c0, c1, c2, c3⟩ := HCell.out _ HB.out
  generalize (w2.alloc (.cells #[.int .u32 0, .int .i64 0] 26)) = Y at *
  go_upto_region 10 with (first
    | (go_at_call 17; with_reducible refine (num_any 1 _).mono ?_; rintro e w2 ⟨rfl, rfl⟩)
    | (go_at_call 26; with_reducible refine (From_nil pa pn _).mono ?_; rintro e w2 ⟨v, rfl, ht, hb⟩; have HB := Lib.hid (bthen HB.out hb); clear hb c0 c1 c2 c3; obtain ⟨c0, c1, c2, c3⟩ := HCell.out _ HB.out; have HT := Lib.hid ht; clear ht)
    | (go_at_call 13; with_reducible refine (Above_nil pa pn _).mono ?_; rintro e w2 ⟨v, rfl, ht, hb⟩; have HB := Lib.hid (bthen HB.out hb); clear hb c0 c1 c2 c3; obtain ⟨c0, c1, c2, c3⟩ := HCell.out _ HB.out; have HT := Lib.hid ht; clear ht)
    | (go_at_call 15; with_reducible refine (rows_none HT.out 1).mono ?_; rintro e w2 ⟨rfl, hb⟩; have HB := Lib.hid (bthen HB.out hb); clear hb c0 c1 c2 c3; obtain ⟨c0, c1, c2, c3⟩ := HCell.out _ HB.out)
    | (go_at_call 22; with_reducible refine (Len_nil _).mono ?_; rintro e w2 ⟨rfl, rfl⟩)
    | (go_at_call 24; with_reducible refine (Nodes_nil _).mono ?_; rintro e w2 ⟨rfl, rfl⟩)
    | (go_at_call 25; with_reducible refine (Depth_nil _).mono ?_; rintro e w2 ⟨rfl, rfl⟩)
    | (go_at_call 31; with_reducible refine (Copy_nil _).mono ?_; rintro e w2 ⟨rfl, rfl⟩)
    | (go_at_call 23; with_reducible refine (Same_nil _).mono ?_; rintro e w2 ⟨rfl, rfl⟩)
    | (go_at_call 18; with_reducible refine (New_any _).mono ?_; rintro e w2 ⟨rfl, rfl⟩; have HTw := Lib.hid (TW.new _ (HR.out.below HB.out)); have HB := Lib.hid (bthen HB.out HTw.out.bl); clear c0 c1 c2 c3; obtain ⟨c0, c1, c2, c3⟩ := HCell.out _ HB.out)
    | (go_at_call 23; with_reducible refine (Same_half _ _ _ HTw.out.st).mono ?_; rintro e w2 ⟨rfl, rfl⟩)
    | fail)
  clear c0 c1 c2 c3 HTw HT HCell
  have HBZ := Lib.hid (bthen HB0.out HB.out)
  have HRZ := Lib.hid (HR.out.below HB.out)
  clear HB HB0 HR
  generalize (w2.alloc (.cells #[.pointer none, .int .i64 0, .bool true] 84)) = Z at *
  go_upto_block 0 with (first
    | (go_at_call 18; with_reducible refine (New_any _).mono ?_; rintro e w4 ⟨rfl, rfl⟩)
    | fail)
  have HT0 := Lib.hid (TW.new Z HRZ.out)
  clear HRZ
  have s1 : IntKind.i64.wrap (511 + more) = 511 + more := IntWalk.i64_in _ (by omega)
  have hNb : (N : Int) = 511 + more := HNn.out
  have hN5 : N ≤ 512 := by omega
  go_cut [20] (fun i wx => i = .int .i64 N ∧ ∃ t, TW Z wx Z.heap.size t ∧ KKs t N)
  case first =>
    clear hNb
    go_wp2_with fail
    go_loopg [20] N (nnRel Z Z.heap.size N)
    case atStart => exact ⟨0, .nil, rfl, by omega, rfl, HT0.out, KKs.nil⟩
    case round =>
      obtain ⟨i, t, hn, hil, rfl, htw, hkk⟩ := hrel
      have Hn := Lib.hid hn
      have HTw := Lib.hid htw
      have HKk := Lib.hid hkk
      clear hn htw hkk
      by_cases hlt : i < N
      · have u1 : decide ((i : Int) < 511 + more) = true := by (have := HNn.out; simp; omega)
        have hk := kk_ok (j := i) (by omega)
        have HP := Lib.hid (fun W h => putC Z Z.heap.size t (kk i) ((i : Int) * 4096) 20 i hk.1 hk.2.1 W h hk.2.2 (HKk.out.no HTw.out.st.wf (Nat.le_refl i) (by omega)) (by have := HKk.out.len; omega))
        have Hk := Lib.hid hk
        clear hk
        go_wp2_with (first
          | (go_at_call 33; with_reducible refine (of_any _ _ _).mono ?_; rintro e w5 ⟨rfl, hb⟩; have HT5 := Lib.hid (HTw.out.below hb); clear hb)
          | (go_at_call 14; with_reducible refine (HP.out _ HT5.out).mono ?_; rintro e w6 ⟨rfl, t', ht6, hpr, _⟩; have HT6 := Lib.hid ht6; have HPr := Lib.hid hpr; clear ht6 hpr)
          | (go_at_call 17; with_reducible refine (num_any 0 _).mono ?_; rintro e w7 ⟨rfl, rfl⟩)
          | fail)
        go_roundg (N - (i + 1))
        case measure => have := Hn.out; omega
        case rel => exact ⟨i + 1, t', rfl, by omega, by go_num, HT6.out, HKk.out.put (by omega) HTw.out.st.wf HT6.out.st.wf HPr.out⟩
      · have e : N = i := by omega
        subst e
        have u1 : decide ((N : Int) < 511 + more) = false := by (have := HNn.out; simp; omega)
        go_wp2_with fail
        go_meet
        exact ⟨rfl, t, HTw.out, HKk.out⟩
  case rest =>
    obtain ⟨rfl, t, htw, hkk⟩ := hcut
    have HTw := Lib.hid htw
    have HP := Lib.hid (fun W h => nn_last (Z := Z) (q := Z.heap.size) hkk (by omega) hN5 7 W h)
    clear htw hkk HT0
    obtain rfl | rfl | rfl : more = -1 ∨ more = 0 ∨ more = 1 := by omega
    · obtain rfl : N = 510 := by omega
      clear hNb hN5 t1 t2 s1 hm0 hm1
      have HP : Hid (∀ W, TW Z W Z.heap.size t → Calls Tryd.prog 14 #[.pointer (some ⟨Z.heap.size, 0, none⟩), .agg #[.int .u32 4294963200, .int .i64 20], .int .i64 7] W fun e w' => e = .returned (.tuple #[.int .i64 0, .bool false, .int .i64 0]) ∧ ∃ t', TW Z w' Z.heap.size t' ∧ t'.rows.length = 511 ∧ ∃ u, t'.get (kk 0) = some u) := HP
      go_wp2_with (first
        | (go_at_call 33; with_reducible refine (of_any _ _ _).mono ?_; rintro e w5 ⟨rfl, hb⟩; have HT5 := Lib.hid (HTw.out.below hb); clear hb)
        | (go_at_call 14; with_reducible refine (HP.out _ HT5.out).mono ?_; rintro e w6 ⟨rfl, t', ht6, hl6, u6', hu6⟩; have HTw := Lib.hid ht6; have HP2 := Lib.hid (fun W h => nn_old (Z := Z) (q := Z.heap.size) hl6 hu6 8 W h); clear ht6 hl6 hu6)
        | (go_at_call 14; with_reducible refine (HP2.out _ HT5.out).mono ?_; rintro e w6 ⟨rfl, t'', ht6, hl6⟩; have HL := Lib.hid (Len_any _ _ _ ht6.st); rw [hl6] at HL; have HTw := Lib.hid ht6; clear ht6 hl6)
        | (go_at_call 17; with_reducible refine (num_any _ _).mono ?_; rintro e w7 ⟨rfl, rfl⟩)
        | (go_at_call 22; with_reducible refine HL.out.mono ?_; rintro e w7 ⟨rfl, rfl⟩)
        | (go_at_call 9; with_reducible refine (works_any _ HTw.out.rel).mono ?_; rintro e w9 ⟨rfl, hb9⟩; have HB9 := Lib.hid hb9; clear hb9)
        | fail)
      go_ret
      exact ⟨rfl, HBZ.out.trans ((bthen HTw.out.bl HB9.out).mono HBZ.out.size)⟩
    · obtain rfl : N = 511 := by omega
      clear hNb hN5 t1 t2 s1 hm0 hm1
      have HP : Hid (∀ W, TW Z W Z.heap.size t → Calls Tryd.prog 14 #[.pointer (some ⟨Z.heap.size, 0, none⟩), .agg #[.int .u32 4294963200, .int .i64 20], .int .i64 7] W fun e w' => e = .returned (.tuple #[.int .i64 0, .bool false, .int .i64 0]) ∧ ∃ t', TW Z w' Z.heap.size t' ∧ t'.rows.length = 512 ∧ ∃ u, t'.get (kk 0) = some u) := HP
      go_wp2_with (first
        | (go_at_call 33; with_reducible refine (of_any _ _ _).mono ?_; rintro e w5 ⟨rfl, hb⟩; have HT5 := Lib.hid (HTw.out.below hb); clear hb)
        | (go_at_call 14; with_reducible refine (HP.out _ HT5.out).mono ?_; rintro e w6 ⟨rfl, t', ht6, hl6, u6', hu6⟩; have HTw := Lib.hid ht6; have HP2 := Lib.hid (fun W h => nn_old (Z := Z) (q := Z.heap.size) hl6 hu6 8 W h); clear ht6 hl6 hu6)
        | (go_at_call 14; with_reducible refine (HP2.out _ HT5.out).mono ?_; rintro e w6 ⟨rfl, t'', ht6, hl6⟩; have HL := Lib.hid (Len_any _ _ _ ht6.st); rw [hl6] at HL; have HTw := Lib.hid ht6; clear ht6 hl6)
        | (go_at_call 17; with_reducible refine (num_any _ _).mono ?_; rintro e w7 ⟨rfl, rfl⟩)
        | (go_at_call 22; with_reducible refine HL.out.mono ?_; rintro e w7 ⟨rfl, rfl⟩)
        | (go_at_call 9; with_reducible refine (works_any _ HTw.out.rel).mono ?_; rintro e w9 ⟨rfl, hb9⟩; have HB9 := Lib.hid hb9; clear hb9)
        | fail)
      go_ret
      exact ⟨rfl, HBZ.out.trans ((bthen HTw.out.bl HB9.out).mono HBZ.out.size)⟩
    · obtain rfl : N = 512 := by omega
      clear hNb hN5 t1 t2 s1 hm0 hm1
      have HP : Hid (∀ W, TW Z W Z.heap.size t → Calls Tryd.prog 14 #[.pointer (some ⟨Z.heap.size, 0, none⟩), .agg #[.int .u32 4294963200, .int .i64 20], .int .i64 7] W fun e w' => e = .returned (.tuple #[.int .i64 0, .bool false, .int .i64 3]) ∧ ∃ t', TW Z w' Z.heap.size t' ∧ t'.rows.length = 512 ∧ ∃ u, t'.get (kk 0) = some u) := HP
      go_wp2_with (first
        | (go_at_call 33; with_reducible refine (of_any _ _ _).mono ?_; rintro e w5 ⟨rfl, hb⟩; have HT5 := Lib.hid (HTw.out.below hb); clear hb)
        | (go_at_call 14; with_reducible refine (HP.out _ HT5.out).mono ?_; rintro e w6 ⟨rfl, t', ht6, hl6, u6', hu6⟩; have HTw := Lib.hid ht6; have HP2 := Lib.hid (fun W h => nn_old (Z := Z) (q := Z.heap.size) hl6 hu6 8 W h); clear ht6 hl6 hu6)
        | (go_at_call 14; with_reducible refine (HP2.out _ HT5.out).mono ?_; rintro e w6 ⟨rfl, t'', ht6, hl6⟩; have HL := Lib.hid (Len_any _ _ _ ht6.st); rw [hl6] at HL; have HTw := Lib.hid ht6; clear ht6 hl6)
        | (go_at_call 17; with_reducible refine (num_any _ _).mono ?_; rintro e w7 ⟨rfl, rfl⟩)
        | (go_at_call 22; with_reducible refine HL.out.mono ?_; rintro e w7 ⟨rfl, rfl⟩)
        | (go_at_call 9; with_reducible refine (works_any _ HTw.out.rel).mono ?_; rintro e w9 ⟨rfl, hb9⟩; have HB9 := Lib.hid hb9; clear hb9)
        | fail)
      go_ret
      exact ⟨rfl, HBZ.out.trans ((bthen HTw.out.bl HB9.out).mono HBZ.out.size)⟩
end Go.Proofs.YtbacahoihkpkpaaDoor
