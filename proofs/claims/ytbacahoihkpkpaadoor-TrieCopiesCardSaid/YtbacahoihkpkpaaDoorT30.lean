/- TrieHolds: the walk. -/
import Derived.Test.YtbacahoihkpkpaaDoorT29
import Derived.Deep.LoopGhost
namespace Go.Proofs.YtbacahoihkpkpaaDoor
open Go.RowKit Go.Shelf Go.Maps

def hRel1 (w : World) (k : Nat) (pa pn : Nat → Int) (m : Nat) (v : Value) (wr : World) : Prop :=
  ∃ (i : Nat) (t : TT), m = k - i ∧ i ≤ k ∧ v = .int .i64 i ∧ T2 w wr w.heap.size t (w.heap.size + 1) .nil ∧ t.rows.length ≤ i ∧ From' k pa pn t
def hRel2 (w : World) (k : Nat) (pa pn : Nat → Int) (m : Nat) (v : Value) (wr : World) : Prop :=
  ∃ (i : Nat) (t : TT), m = k - i ∧ i ≤ k ∧ v = .int .i64 i ∧ T2 w wr w.heap.size t (w.heap.size + 1) .nil ∧ t.rows.length ≤ k ∧ From' k pa pn t

theorem cellB {w w' : World} (hb : Below w.heap.size w w') {a : Addr} {v : Value} (h : w.cell? a = some v) : w'.cell? a = some v :=
  (hb.cell (World.block_lt_of_cell? w a h)).trans h
def bstA : Option Key → Int
  | none => 0
  | some y => ka y
def bstN : Option Key → Int
  | none => 0
  | some y => y.length
def hRel3 (w : World) (k : Nat) (pa pn : Nat → Int) (A : Key) (t : TT) (B : Nat) (m : Nat) (v12 v13 : Value) (wr : World) : Prop :=
  ∃ (s : TT) (bst : Option Key), m ≤ k ∧ v13 = .int .i64 ((m : Int) - 1) ∧ v12 = .bool bst.isSome ∧ T2 w wr w.heap.size t (w.heap.size + 1) s ∧ PBox wr B (bstA bst) (bstN bst) ∧ Copied k m pa pn t s ∧ s.rows.length ≤ k - m ∧ Best A s bst

/-- what the law asks of two tries at its end -/
structure EndC (w0 X : World) (q r : Nat) (N D n : Int) : Prop where
  same : ∀ W, Below X.heap.size X W → Calls Tryd.prog 23 #[.pointer (some ⟨q, 0, none⟩), .pointer (some ⟨r, 0, none⟩)] W fun e w' => e = .returned (.bool true) ∧ Below W.heap.size W w'
  nt : ∀ W, Below X.heap.size X W → Calls Tryd.prog 24 #[.pointer (some ⟨q, 0, none⟩)] W fun e w' => e = .returned (.int .i64 N) ∧ Below W.heap.size W w'
  ns : ∀ W, Below X.heap.size X W → Calls Tryd.prog 24 #[.pointer (some ⟨r, 0, none⟩)] W fun e w' => e = .returned (.int .i64 N) ∧ Below W.heap.size W w'
  dt : ∀ W, Below X.heap.size X W → Calls Tryd.prog 25 #[.pointer (some ⟨q, 0, none⟩)] W fun e w' => e = .returned (.int .i64 D) ∧ Below W.heap.size W w'
  ds : ∀ W, Below X.heap.size X W → Calls Tryd.prog 25 #[.pointer (some ⟨r, 0, none⟩)] W fun e w' => e = .returned (.int .i64 D) ∧ Below W.heap.size W w'
  ln : ∀ W, Below X.heap.size X W → Calls Tryd.prog 22 #[.pointer (some ⟨q, 0, none⟩)] W fun e w' => e = .returned (.int .i64 n) ∧ Below W.heap.size W w'
  wk : ∀ W, Below X.heap.size X W → Calls Tryd.prog 9 #[] W fun e w' => e = .returned (.bool true) ∧ Below w0.heap.size w0 w'
theorem EndC.mono {w0 X Y : World} {q r : Nat} {N D n : Int} (e : EndC w0 X q r N D n) (hb : Below X.heap.size X Y) : EndC w0 Y q r N D n :=
  ⟨fun W h => e.same W (bthen hb h), fun W h => e.nt W (bthen hb h), fun W h => e.ns W (bthen hb h), fun W h => e.dt W (bthen hb h), fun W h => e.ds W (bthen hb h), fun W h => e.ln W (bthen hb h), fun W h => e.wk W (bthen hb h)⟩
theorem ends {w0 X : World} {q r : Nat} {t s : TT} (h : T2 w0 X q t r s) (hr : t.rows = s.rows) (hl : t.rows.length ≤ 1000) :
    ∃ N D n : Int, EndC w0 X q r N D n ∧ 0 ≤ n ∧ n ≤ 1000 ∧ n ≤ N ∧ 0 ≤ N ∧ N ≤ 2000 ∧ N ≤ max 0 (2 * n - 1) ∧ 0 ≤ D ∧ D ≤ 33 ∧ (n = 0 ∧ D = 0 ∨ 0 < n ∧ 0 < D) := by
  have hz := TT.sz_le h.a.st.wf
  have hN : s.sz = t.sz := (sz_of_rows h.a.st.wf h.b.st.wf hr).symm
  have hD : s.dp = t.dp := (dp_of_rows h.a.st.wf h.b.st.wf hr).symm
  have hd := TT.dp_le h.a.st.wf (q := []) (fun _ _ => List.nil_prefix) (by simp)
  have h0 := TT.dp_zero (t := t)
  simp at hd
  refine ⟨t.sz, t.dp, t.rows.length, ⟨?_, ?_, ?_, ?_, ?_, ?_, ?_⟩, by omega, by omega, by omega, by omega, by omega, by omega, by omega, by omega, by omega⟩
  · intro W hb
    exact (Same_any q r t s W (h.a.below hb).st (h.b.below hb).st (by omega) (by rw [← hr]; omega)).mono fun e w' ⟨h1, h2⟩ => ⟨by rw [h1, decide_eq_true hr], h2⟩
  · intro W hb
    exact (Nodes_any q t W (h.a.below hb).st (by omega)).mono fun e w' ⟨h1, h2⟩ => ⟨h1, h2⟩
  · intro W hb
    exact (Nodes_any r s W (h.b.below hb).st (by omega)).mono fun e w' ⟨h1, h2⟩ => ⟨by rw [h1, hN], h2⟩
  · intro W hb
    exact (Depth_any q t W (h.a.below hb).st (by omega)).mono fun e w' ⟨h1, h2⟩ => ⟨h1, h2⟩
  · intro W hb
    exact (Depth_any r s W (h.b.below hb).st (by omega)).mono fun e w' ⟨h1, h2⟩ => ⟨by rw [h1, hD], h2⟩
  · intro W hb
    exact (Len_any q t W (h.a.below hb).st).mono fun e w' ⟨h1, h2⟩ => ⟨h1, h2 ▸ Below.refl _ _⟩
  · intro W hb
    exact (works_any W (h.a.below hb).rel).mono fun e w' ⟨h1, h2⟩ => ⟨h1, (h.a.below hb).bl.trans (h2.mono (h.a.below hb).bl.size)⟩

set_option maxRecDepth 100000 in
set_option maxHeartbeats 8000000 in
theorem TrieHolds_any (w : World) (hR : RelsAt w) (base : Option Addr) (b o k c : Nat) (pa pn : Nat → Int) (gone : Int) (A : Key) (hA : A.length = 32) (h : PIn w base b o k pa pn) (hk : k ≤ 25) (_hg0 : 0 ≤ gone) (_hg1 : gone < 4294967296) :
    Calls Tryd.prog 4 #[.slice base k c, .int .u32 gone, .int .u32 (ka A)] w fun e w' => e = .returned (.bool true) ∧ Below w.heap.size w w' := by
  have HP := Lib.hid h
  have hT := T2.new (TW.new w hR)
  have HT := Lib.hid (show T2 w ((w.alloc (.cells #[.pointer none, .int .i64 0, .bool true] 84)).alloc (.cells #[.pointer none, .int .i64 0, .bool true] 84)) w.heap.size .nil (w.heap.size + 1) .nil by simpa using hT)
  clear hT hR h
  have t1 : decide ((25 : Int) < (k : Int)) = false := by simp; omega
  go_enter Tryd.func4, Tryd.ntmps4
  go_upto_region 5 with (first
    | (go_at_call 18; with_reducible refine (New_any _).mono ?_; rintro e w1 ⟨rfl, rfl⟩)
    | fail)
  go_loopg [9] k (hRel1 w k pa pn)
  case atStart => exact ⟨0, .nil, rfl, by omega, rfl, HT.out, by simp [TT.rows], fun x u hx => by simp [TT.rows] at hx⟩
  case round =>
    obtain ⟨i, t, hn, hik, rfl, hT2, hlen, hF⟩ := hrel
    have Hn := Lib.hid hn
    have HT2 := Lib.hid hT2
    have HF := Lib.hid hF
    clear hn hT2 hF
    by_cases hlt : i < k
    · have i1 : (0 : Int) ≤ (i : Int) := by omega
      have i2 : (i : Int) < (k : Int) := by omega
      have hin := HP.out.below HT2.out.a.bl
      obtain rfl := hin.is (by omega)
      obtain ⟨c0, c1⟩ := hin.c i hlt
      obtain ⟨⟨a0, a1⟩, _⟩ := hin.bd i
      clear hin
      have HC := Lib.hid (putA w _ t _ .nil (pa i) (pn i) i wr HT2.out a0 a1 (by omega))
      go_wp2_with (first
        | (go_at_call 14; with_reducible refine HC.out.mono ?_; rintro e w2 ⟨x, rfl, t', hT3, hst, hbx⟩; have HT3 := Lib.hid hT3; have HSt := Lib.hid hst; clear hT3 hst hbx c0 c1)
        | fail)
      go_roundg (k - (i + 1))
      case measure => have := Hn.out; omega
      case rel => exact ⟨i + 1, t', rfl, by omega, by go_num, HT3.out, by have := stepP_len HT2.out.a.st.wf HT3.out.a.st.wf a0 a1 HSt.out; omega, HF.out.put hlt HSt.out⟩
    · have e : k = i := by omega
      subst e
      go_upto_region 9 with fail
      clear hik hlt
      go_loopg [10] k (hRel2 w k pa pn)
      case atStart => exact ⟨0, t, rfl, by omega, rfl, HT2.out, hlen, HF.out⟩
      case round =>
        clear Hn HT2 HF hlen
        obtain ⟨i, t, hn, hik, rfl, hT2, hlen, hF⟩ := hrel
        have Hn := Lib.hid hn
        have HT2 := Lib.hid hT2
        have HF := Lib.hid hF
        clear hn hT2 hF
        by_cases hlt : i < k
        · have i1 : (0 : Int) ≤ (i : Int) := by omega
          have i2 : (i : Int) < (k : Int) := by omega
          have hin := HP.out.below HT2.out.a.bl
          obtain rfl := hin.is (by omega)
          obtain ⟨c0, c1⟩ := hin.c i hlt
          obtain ⟨⟨a0, a1⟩, _⟩ := hin.bd i
          clear hin
          have HC := Lib.hid (takeA w _ t _ .nil (pa i) (pn i) wr HT2.out a0 a1 (by omega))
          go_wp2_with (first
            | (go_at_call 19; with_reducible refine HC.out.mono ?_; rintro e w2 ⟨x, rfl, t', hT3, hst⟩; have HT3 := Lib.hid hT3; have HSt := Lib.hid hst; clear hT3 hst c0 c1)
            | fail)
          · go_roundg (k - (i + 1))
            case measure => have := Hn.out; omega
            case rel => exact ⟨i + 1, t', rfl, by omega, by go_num, HT3.out, by have := stepT_len HT2.out.a.st.wf HT3.out.a.st.wf HSt.out; omega, HF.out.take HSt.out⟩
          · go_roundg (k - (i + 1))
            case measure => have := Hn.out; omega
            case rel => exact ⟨i + 1, t, rfl, by omega, by go_num, HT2.out, hlen, HF.out⟩
        · have e : k = i := by omega
          subst e
          clear hik hlt
          go_upto_region 16 with fail
          have hsz := HT2.out.a.bl.size
          have hBz : 0 < wr.heap.size := by have := HT2.out.a.st.lt; omega
          have HB0 := Lib.hid (PBox.new wr 0 0)
          have HT3 := Lib.hid (HT2.out.below ((Below.refl _ wr).alloc (Nat.le_refl _) (Obj.cells #[.int .u32 0, .int .i64 0] 26)))
          generalize (wr.alloc (Obj.cells #[.int .u32 0, .int .i64 0] 26)) = X at *
          generalize wr.heap.size = B at *
          clear Hn HT2
          go_loopg [12, 13] k (hRel3 w k pa pn A t B)
          case atStart => exact ⟨.nil, none, Nat.le_refl _, by first | rfl | go_num, rfl, HT3.out, HB0.out, Copied.start, by simp [TT.rows], Best.start⟩
          case round =>
            clear HT3 HB0
            obtain ⟨s, bst, hmk, rfl, rfl, hT2, hpb, hcp, hsl, hbs⟩ := hrel
            have HT2 := Lib.hid hT2
            have HPb := Lib.hid hpb
            have HCp := Lib.hid hcp
            have HBs := Lib.hid hbs
            clear hT2 hpb hcp hbs
            cases hgk : gk with
            | zero =>
              subst hgk
              have hrows := HCp.out.done HF.out HT2.out.a.st.wf HT2.out.b.st.wf
              have hbst := HBs.out.uniq ((best_above HT2.out.a.st.wf hA).rows hrows)
              have HRows := Lib.hid hrows
              have HFd := Lib.hid (findC w w.heap.size t A (ka A) _ rfl wr HT2.out.a hA rfl)
              clear hrows
              cases hq : (t.above A).getLast? with
              | none =>
                rw [hq] at HFd hbst
                simp only [Option.map_none] at hbst
                subst hbst
                dsimp only [findV, bstA, bstN] at HFd HPb
                obtain ⟨N, D, n, hE, n0, n1, hnN, hN0, hN1, hN2, hD0, hD1, hnD⟩ := ends HT2.out HRows.out (by omega)
                have HE := Lib.hid hE
                clear hE
                have q1 : decide (N ≤ max 0 (2 * n - 1)) = true := by simpa using hN2
                have q2 : decide (n ≤ N) = true := by simpa using hnN
                have q3 : decide (D ≤ 33) = true := by simpa using hD1
                have HQ := Lib.hid hN2
                clear hN2
                go_upto_region 24 with (first
                  | (go_at_call 11; with_reducible refine HFd.out.mono ?_; rintro e w2 ⟨rfl, hT, hb⟩; have HB2 := Lib.hid hb; clear hT hb)
                  | fail)
                have HPq := Lib.hid (PBox.new w2 0 0)
                have HB3 := Lib.hid (HB2.out.alloc HB2.out.size (Obj.cells #[.int .u32 0, .int .i64 0] 26))
                generalize (w2.alloc (Obj.cells #[.int .u32 0, .int .i64 0] 26)) = Y at *
                generalize w2.heap.size = G at *
                have HPbY := Lib.hid (HPb.out.below HB3.out)
                have HCell := Lib.hid (show ∀ W', Below Y.heap.size Y W' → (W'.cell? ⟨G, 0, none⟩ = some (.int .u32 0) ∧ W'.cell? ⟨G, 1, none⟩ = some (.int .i64 0) ∧ W'.cell? ⟨B, 0, none⟩ = some (.int .u32 0) ∧ W'.cell? ⟨B, 1, none⟩ = some (.int .i64 0)) from fun W' h =>
                  ⟨(HPq.out.below h).c0, (HPq.out.below h).c1, (HPbY.out.below h).c0, (HPbY.out.below h).c1⟩)
                have HE := Lib.hid (HE.out.mono HB3.out)
                obtain ⟨c0, c1, c2, c3⟩ := HCell.out Y (Below.refl _ _)
                have HW := Lib.hid (Below.refl Y.heap.size Y)
                clear HB2
                rcases hnD with ⟨rfl, rfl⟩ | ⟨hn0, hD0⟩
                all_goals
                  (first | (have r1 : (n == 0) = false := by (simp; omega)) | skip)
                  (first | (have q4 : N ≤ 2 * n - 1 := by (have := HQ.out; omega)) | skip)
                  (first | (have r2 : (D == 0) = false := by (simp; omega)) | skip)
                  go_wp2_with (first
                    | (go_at_call 22; with_reducible refine (HE.out.ln _ HW.out).mono ?_; rintro e w3 ⟨rfl, hb⟩; have HW := Lib.hid (bthen HW.out hb); clear hb c0 c1 c2 c3; obtain ⟨c0, c1, c2, c3⟩ := HCell.out _ HW.out)
                    | (go_at_call 23; with_reducible refine (HE.out.same _ HW.out).mono ?_; rintro e w3 ⟨rfl, hb⟩; have HW := Lib.hid (bthen HW.out hb); clear hb c0 c1 c2 c3; obtain ⟨c0, c1, c2, c3⟩ := HCell.out _ HW.out)
                    | (go_at_call 24; with_reducible refine (HE.out.nt _ HW.out).mono ?_; rintro e w3 ⟨rfl, hb⟩; have HW := Lib.hid (bthen HW.out hb); clear hb c0 c1 c2 c3; obtain ⟨c0, c1, c2, c3⟩ := HCell.out _ HW.out)
                    | (go_at_call 24; with_reducible refine (HE.out.ns _ HW.out).mono ?_; rintro e w3 ⟨rfl, hb⟩; have HW := Lib.hid (bthen HW.out hb); clear hb c0 c1 c2 c3; obtain ⟨c0, c1, c2, c3⟩ := HCell.out _ HW.out)
                    | (go_at_call 25; with_reducible refine (HE.out.dt _ HW.out).mono ?_; rintro e w3 ⟨rfl, hb⟩; have HW := Lib.hid (bthen HW.out hb); clear hb c0 c1 c2 c3; obtain ⟨c0, c1, c2, c3⟩ := HCell.out _ HW.out)
                    | (go_at_call 25; with_reducible refine (HE.out.ds _ HW.out).mono ?_; rintro e w3 ⟨rfl, hb⟩; have HW := Lib.hid (bthen HW.out hb); clear hb c0 c1 c2 c3; obtain ⟨c0, c1, c2, c3⟩ := HCell.out _ HW.out)
                    | (go_at_call 9; with_reducible refine (HE.out.wk _ HW.out).mono ?_; rintro e w3 ⟨rfl, hb⟩; have HV := Lib.hid hb; clear hb c0 c1 c2 c3)
                    | fail)
                  go_ret
                  exact ⟨rfl, HV.out⟩
              | some y =>
                rw [hq] at HFd hbst
                simp only [Option.map_some] at hbst
                subst hbst
                dsimp only [findV, bstA, bstN] at HFd HPb
                obtain ⟨N, D, n, hE, n0, n1, hnN, hN0, hN1, hN2, hD0, hD1, hnD⟩ := ends HT2.out HRows.out (by omega)
                have HE := Lib.hid hE
                clear hE
                have q1 : decide (N ≤ max 0 (2 * n - 1)) = true := by simpa using hN2
                have q2 : decide (n ≤ N) = true := by simpa using hnN
                have q3 : decide (D ≤ 33) = true := by simpa using hD1
                have HQ := Lib.hid hN2
                clear hN2
                go_upto_region 24 with (first
                  | (go_at_call 11; with_reducible refine HFd.out.mono ?_; rintro e w2 ⟨rfl, hT, hb⟩; have HB2 := Lib.hid hb; clear hT hb)
                  | fail)
                have HPq := Lib.hid (PBox.new w2 (ka y.1) y.1.length)
                have HB3 := Lib.hid (HB2.out.alloc HB2.out.size (Obj.cells #[.int .u32 (ka y.1), .int .i64 y.1.length] 26))
                generalize (w2.alloc (Obj.cells #[.int .u32 (ka y.1), .int .i64 y.1.length] 26)) = Y at *
                generalize w2.heap.size = G at *
                have HPbY := Lib.hid (HPb.out.below HB3.out)
                have HCell := Lib.hid (show ∀ W', Below Y.heap.size Y W' → (W'.cell? ⟨G, 0, none⟩ = some (.int .u32 (ka y.1)) ∧ W'.cell? ⟨G, 1, none⟩ = some (.int .i64 y.1.length) ∧ W'.cell? ⟨B, 0, none⟩ = some (.int .u32 (ka y.1)) ∧ W'.cell? ⟨B, 1, none⟩ = some (.int .i64 y.1.length)) from fun W' h =>
                  ⟨(HPq.out.below h).c0, (HPq.out.below h).c1, (HPbY.out.below h).c0, (HPbY.out.below h).c1⟩)
                have HE := Lib.hid (HE.out.mono HB3.out)
                obtain ⟨c0, c1, c2, c3⟩ := HCell.out Y (Below.refl _ _)
                have HW := Lib.hid (Below.refl Y.heap.size Y)
                clear HB2
                rcases hnD with ⟨rfl, rfl⟩ | ⟨hn0, hD0⟩
                all_goals
                  (first | (have r1 : (n == 0) = false := by (simp; omega)) | skip)
                  (first | (have q4 : N ≤ 2 * n - 1 := by (have := HQ.out; omega)) | skip)
                  (first | (have r2 : (D == 0) = false := by (simp; omega)) | skip)
                  go_wp2_with (first
                    | (go_at_call 22; with_reducible refine (HE.out.ln _ HW.out).mono ?_; rintro e w3 ⟨rfl, hb⟩; have HW := Lib.hid (bthen HW.out hb); clear hb c0 c1 c2 c3; obtain ⟨c0, c1, c2, c3⟩ := HCell.out _ HW.out)
                    | (go_at_call 23; with_reducible refine (HE.out.same _ HW.out).mono ?_; rintro e w3 ⟨rfl, hb⟩; have HW := Lib.hid (bthen HW.out hb); clear hb c0 c1 c2 c3; obtain ⟨c0, c1, c2, c3⟩ := HCell.out _ HW.out)
                    | (go_at_call 24; with_reducible refine (HE.out.nt _ HW.out).mono ?_; rintro e w3 ⟨rfl, hb⟩; have HW := Lib.hid (bthen HW.out hb); clear hb c0 c1 c2 c3; obtain ⟨c0, c1, c2, c3⟩ := HCell.out _ HW.out)
                    | (go_at_call 24; with_reducible refine (HE.out.ns _ HW.out).mono ?_; rintro e w3 ⟨rfl, hb⟩; have HW := Lib.hid (bthen HW.out hb); clear hb c0 c1 c2 c3; obtain ⟨c0, c1, c2, c3⟩ := HCell.out _ HW.out)
                    | (go_at_call 25; with_reducible refine (HE.out.dt _ HW.out).mono ?_; rintro e w3 ⟨rfl, hb⟩; have HW := Lib.hid (bthen HW.out hb); clear hb c0 c1 c2 c3; obtain ⟨c0, c1, c2, c3⟩ := HCell.out _ HW.out)
                    | (go_at_call 25; with_reducible refine (HE.out.ds _ HW.out).mono ?_; rintro e w3 ⟨rfl, hb⟩; have HW := Lib.hid (bthen HW.out hb); clear hb c0 c1 c2 c3; obtain ⟨c0, c1, c2, c3⟩ := HCell.out _ HW.out)
                    | (go_at_call 9; with_reducible refine (HE.out.wk _ HW.out).mono ?_; rintro e w3 ⟨rfl, hb⟩; have HV := Lib.hid hb; clear hb c0 c1 c2 c3)
                    | fail)
                  go_ret
                  exact ⟨rfl, HV.out⟩
            | succ i =>
              subst hgk
              have hlt : i < k := by omega
              have i1 : (0 : Int) ≤ (i : Int) := by omega
              have i2 : (i : Int) < (k : Int) := by omega
              have hin := HP.out.below HT2.out.a.bl
              obtain rfl := hin.is (by omega)
              obtain ⟨c0, c1⟩ := hin.c i hlt
              obtain ⟨⟨a0, a1⟩, _⟩ := hin.bd i
              have HIn := Lib.hid hin
              clear hin
              have HG := Lib.hid (getA_any w w.heap.size t (pa i) (pn i) wr HT2.out.a a0 a1)
              cases hg : getA (pa i) (pn i) t with
              | none =>
                have HGn := Lib.hid hg
                rw [hg] at HG
                simp only [getV] at HG
                clear hg
                go_wp2_with (first
                  | (go_at_call 20; with_reducible refine HG.out.mono ?_; rintro e w2 ⟨rfl, hb⟩; have HB2 := Lib.hid hb; clear hb c0 c1)
                  | fail)
                go_roundg i
                case measure => omega
                case rel => exact ⟨s, bst, by omega, by go_num, rfl, HT2.out.below HB2.out, HPb.out.below HB2.out, HCp.out.skip HT2.out.a.st.wf HGn.out, by omega, HBs.out⟩
              | some u =>
                have HGs := Lib.hid hg
                rw [hg] at HG
                simp only [getV] at HG
                have hrt : rightB (pa i) (pn i) = true := by
                  unfold getA at hg
                  by_cases hr : rightB (pa i) (pn i) = true
                  · exact hr
                  · rw [if_neg hr] at hg; cases hg
                clear hg
                have HC := Lib.hid (fun W h => putA w (w.heap.size + 1) s w.heap.size t (pa i) (pn i) u W h a0 a1 (by omega))
                go_upto_region 21 with (first
                  | (go_at_call 20; with_reducible refine HG.out.mono ?_; rintro e w2 ⟨rfl, hb⟩; have HB2 := Lib.hid hb; have HT3 := Lib.hid (HT2.out.below hb); have hin := HIn.out.below hb; clear c0 c1; obtain ⟨c0, c1⟩ := hin.c i hlt; clear hin hb)
                  | (go_at_call 14; with_reducible refine (HC.out _ HT3.out.swap).mono ?_; rintro e w3 ⟨x, rfl, s', hT4, hst, hbx⟩; have HT4 := Lib.hid hT4.swap; have HSt := Lib.hid hst; have HPc := Lib.hid (hbx _ _ _ (HPb.out.below HB2.out)); clear hT4 hst hbx c0 c1)
                  | fail)
                have hl3 := stepP_len HT3.out.b.st.wf HT4.out.b.st.wf a0 a1 HSt.out
                have HCp' := Lib.hid (HCp.out.put hlt HT3.out.a.st.wf HGs.out HSt.out)
                obtain ⟨e1, e2, e3⟩ := ka_bs a0 a1 hrt
                have hst := HSt.out
                unfold stepP at hst
                rw [if_pos hrt] at hst
                have HBp := Lib.hid (HBs.out.put (A := A) hst)
                clear hst
                have hin := HP.out.below HT4.out.a.bl
                obtain ⟨c0, c1⟩ := hin.c i hlt
                clear hin
                have b0 := HPc.out.c0
                have b1 := HPc.out.c1
                have f0 := HPc.out.f0
                have f1 := HPc.out.f1
                have hAb := ka_bd A
                have hhas : hasB (pa i) (pn i) (ka A) = decide (bs (pa i) (pn i) <+: A) := by rw [← has_key e3 hA, e1, e2]
                have HH := Lib.hid (fun W => rHas_any (pa i) (pn i) (ka A) W a0 a1 hAb.1 hAb.2)
                rw [hhas] at HH
                revert HBp HH e2 e1
                generalize bs (pa i) (pn i) = p
                intro e1 e2 HBp HH
                have HCell := Lib.hid (show ∀ W', Below w3.heap.size w3 W' → (W'.cell? ⟨b, o + i * 2, none⟩ = some (.int .u32 (pa i)) ∧ W'.cell? ⟨b, o + i * 2 + 1, none⟩ = some (.int .i64 (pn i)) ∧ W'.cell? ⟨B, 0, none⟩ = some (.int .u32 (bstA bst)) ∧ W'.cell? ⟨B, 1, none⟩ = some (.int .i64 (bstN bst))) from fun W' h =>
                  ⟨cellB h c0, cellB h c1, (HPc.out.below h).c0, (HPc.out.below h).c1⟩)
                by_cases hp : p <+: A
                · rw [decide_eq_true hp] at HH
                  rw [if_pos hp] at HBp
                  cases bst with
                  | none =>
                    dsimp only [bstA, bstN, Option.isSome_none] at HCell HPc HBp b0 b1
                    refine wp_region_held_drew (S := (fun W' => W'.cell? ⟨b, o + i * 2, none⟩ = some (.int .u32 (pa i)) ∧ W'.cell? ⟨b, o + i * 2 + 1, none⟩ = some (.int .i64 (pn i)) ∧ W'.cell? ⟨B, 0, none⟩ = some (.int .u32 0) ∧ W'.cell? ⟨B, 1, none⟩ = some (.int .i64 0))) (by kernel_rfl) (HCell.out _ (Below.refl w3.heap.size w3).drew) (fun hSw => ?_)
                    refine wpAnyH_take (i := 0) (oi := { dst := some 82, op := Op.move (Operand.tmp 0), type := 50, pos := "law.go:191", after := #[], guard := none }) (v := ?_) rfl (by kernel_rfl) (by kernel_rfl) (by kernel_rfl) (fun _ _ _ h => h) (Or.inl ⟨by kernel_rfl, ?_⟩) (by assumption) ?_
                    rotate_left 1
                    · (intro w hSw; (try dsimp only at hSw); go_simp); try with_reducible rfl
                    simp only [Act.put, List.setIfInBounds_toArray, List.set_cons_zero, List.set_cons_succ]
                    refine wpAnyH_take (i := 1) (oi := { dst := some 83, op := Op.move (Operand.tmp 13), type := 3, pos := "law.go:191", after := #[], guard := none }) (v := ?_) rfl (by kernel_rfl) (by kernel_rfl) (by kernel_rfl) (fun _ _ _ h => h) (Or.inl ⟨by kernel_rfl, ?_⟩) (by assumption) ?_
                    rotate_left 1
                    · (intro w hSw; (try dsimp only at hSw); go_simp); try with_reducible rfl
                    simp only [Act.put, List.setIfInBounds_toArray, List.set_cons_zero, List.set_cons_succ]
                    refine wpAnyH_take (i := 2) (oi := { dst := some 84, op := Op.indexAddr 50 (Operand.tmp 82) (Operand.tmp 83), type := 0, pos := "law.go:191", after := #[{ on := 0, ground := Ground.data }, { on := 1, ground := Ground.data }], guard := none }) (v := ?_) rfl (by kernel_rfl) (by kernel_rfl) (by kernel_rfl) (fun _ _ _ h => h) (Or.inl ⟨by kernel_rfl, ?_⟩) (by assumption) ?_
                    rotate_left 1
                    · (intro w hSw; (try dsimp only at hSw); go_simp); try with_reducible rfl
                    simp only [Act.put, List.setIfInBounds_toArray, List.set_cons_zero, List.set_cons_succ]
                    refine wpAnyH_take (i := 3) (oi := { dst := some 85, op := Op.load 26 (Operand.tmp 84), type := 26, pos := "law.go:191", after := #[{ on := 2, ground := Ground.data }], guard := none }) (v := ?_) rfl (by kernel_rfl) (by kernel_rfl) (by kernel_rfl) (fun _ _ _ h => h) (Or.inl ⟨by kernel_rfl, ?_⟩) (by assumption) ?_
                    rotate_left 1
                    · (intro w hSw; (try dsimp only at hSw); go_simp); try with_reducible rfl
                    simp only [Act.put, List.setIfInBounds_toArray, List.set_cons_zero, List.set_cons_succ]
                    refine wpAnyH_take (i := 4) (oi := { dst := some 86, op := Op.move (Operand.tmp 2), type := 24, pos := "law.go:191", after := #[], guard := none }) (v := ?_) rfl (by kernel_rfl) (by kernel_rfl) (by kernel_rfl) (fun _ _ _ h => h) (Or.inl ⟨by kernel_rfl, ?_⟩) (by assumption) ?_
                    rotate_left 1
                    · (intro w hSw; (try dsimp only at hSw); go_simp); try with_reducible rfl
                    simp only [Act.put, List.setIfInBounds_toArray, List.set_cons_zero, List.set_cons_succ]
                    refine wpAnyH_ready (rs := [5]) (by kernel_rfl) (by simp) (AllReadyH.cons (o := ({ dst := some 87, op := Op.call { callee := Callee.value (Operand.func 21), args := #[Operand.tmp 85, Operand.tmp 86], argTypes := #[26, 24] }, type := 4, pos := "law.go:191", after := #[{ on := 3, ground := Ground.data }, { on := 4, ground := Ground.data }], guard := none } : Oper)) rfl (fun K hK => ?_) AllReadyH.nil)
                    go_simp
                    with_reducible refine (HH.out _).mono ?_
                    rintro e w5 ⟨rfl, hb⟩
                    have hb5 := bthen (Below.refl w3.heap.size w3).drew hb
                    refine hK.out _ _ (HCell.out _ hb5) (fun hSw5 => ?_)
                    clear hK K hSw
                    have HB5 := Lib.hid hb5
                    have HPd := Lib.hid (HPc.out.below hb5)
                    have g0 := HPd.out.f0
                    have g1 := HPd.out.f1
                    have d0 := cellB hb5 c0
                    have d1 := cellB hb5 c1
                    have d2 := HPd.out.c0
                    have d3 := HPd.out.c1
                    clear hb hb5
                    refine wpAnyH_take (i := 6) (oi := { dst := some 88, op := Op.move (Operand.tmp 87), type := 4, pos := "law.go:191", after := #[{ on := 5, ground := Ground.data }, { on := 5, ground := Ground.chain }], guard := none }) (v := ?_) rfl (by kernel_rfl) (by kernel_rfl) (by kernel_rfl) (fun _ _ _ h => h) (Or.inl ⟨by kernel_rfl, ?_⟩) (by assumption) ?_
                    rotate_left 1
                    · (intro w hSw; (try dsimp only at hSw); go_simp); try with_reducible rfl
                    simp only [Act.put, List.setIfInBounds_toArray, List.set_cons_zero, List.set_cons_succ]
                    refine wpAnyH_take (i := 7) (oi := { dst := some 89, op := Op.move (Operand.tmp 12), type := 4, pos := "law.go:191", after := #[{ on := 6, ground := Ground.guard }], guard := some (6, true) }) (v := ?_) rfl (by kernel_rfl) (by kernel_rfl) (by kernel_rfl) (fun _ _ _ h => h) (Or.inl ⟨by kernel_rfl, ?_⟩) (by assumption) ?_
                    rotate_left 1
                    · (intro w hSw; (try dsimp only at hSw); go_simp); try with_reducible rfl
                    simp only [Act.put, List.setIfInBounds_toArray, List.set_cons_zero, List.set_cons_succ]
                    refine wpAnyH_take (i := 8) (oi := { dst := some 90, op := Op.unOp UnOp.not 4 (Operand.tmp 89), type := 4, pos := "law.go:191", after := #[{ on := 7, ground := Ground.data }, { on := 6, ground := Ground.guard }], guard := some (6, true) }) (v := ?_) rfl (by kernel_rfl) (by kernel_rfl) (by kernel_rfl) (fun _ _ _ h => h) (Or.inl ⟨by kernel_rfl, ?_⟩) (by assumption) ?_
                    rotate_left 1
                    · (intro w hSw; (try dsimp only at hSw); go_simp); try with_reducible rfl
                    simp only [Act.put, List.setIfInBounds_toArray, List.set_cons_zero, List.set_cons_succ]
                    refine wpAnyH_take (i := 9) (oi := { dst := some 91, op := Op.move (Operand.tmp 90), type := 4, pos := "law.go:191", after := #[{ on := 8, ground := Ground.data }, { on := 6, ground := Ground.chain }, { on := 6, ground := Ground.guard }], guard := some (6, true) }) (v := ?_) rfl (by kernel_rfl) (by kernel_rfl) (by kernel_rfl) (fun _ _ _ h => h) (Or.inl ⟨by kernel_rfl, ?_⟩) (by assumption) ?_
                    rotate_left 1
                    · (intro w hSw; (try dsimp only at hSw); go_simp); try with_reducible rfl
                    simp only [Act.put, List.setIfInBounds_toArray, List.set_cons_zero, List.set_cons_succ]
                    refine wpAnyH_take (i := 10) (oi := { dst := some 92, op := Op.move (Operand.tmp 0), type := 50, pos := "law.go:191", after := #[{ on := 9, ground := Ground.guard }], guard := some (9, false) }) (v := undef) rfl (by kernel_rfl) (by kernel_rfl) (by kernel_rfl) (fun _ _ _ h => h) (Or.inr ⟨by kernel_rfl, rfl⟩) (by assumption) ?_
                    simp only [Act.put, List.setIfInBounds_toArray, List.set_cons_zero, List.set_cons_succ]
                    refine wpAnyH_take (i := 11) (oi := { dst := some 93, op := Op.move (Operand.tmp 13), type := 3, pos := "law.go:191", after := #[{ on := 9, ground := Ground.guard }], guard := some (9, false) }) (v := undef) rfl (by kernel_rfl) (by kernel_rfl) (by kernel_rfl) (fun _ _ _ h => h) (Or.inr ⟨by kernel_rfl, rfl⟩) (by assumption) ?_
                    simp only [Act.put, List.setIfInBounds_toArray, List.set_cons_zero, List.set_cons_succ]
                    refine wpAnyH_take (i := 12) (oi := { dst := some 94, op := Op.indexAddr 50 (Operand.tmp 92) (Operand.tmp 93), type := 0, pos := "law.go:191", after := #[{ on := 10, ground := Ground.data }, { on := 11, ground := Ground.data }, { on := 9, ground := Ground.guard }], guard := some (9, false) }) (v := undef) rfl (by kernel_rfl) (by kernel_rfl) (by kernel_rfl) (fun _ _ _ h => h) (Or.inr ⟨by kernel_rfl, rfl⟩) (by assumption) ?_
                    simp only [Act.put, List.setIfInBounds_toArray, List.set_cons_zero, List.set_cons_succ]
                    refine wpAnyH_take (i := 13) (oi := { dst := some 95, op := Op.fieldAddr 26 (Operand.tmp 94) 1, type := 0, pos := "law.go:191", after := #[{ on := 12, ground := Ground.data }, { on := 9, ground := Ground.guard }], guard := some (9, false) }) (v := undef) rfl (by kernel_rfl) (by kernel_rfl) (by kernel_rfl) (fun _ _ _ h => h) (Or.inr ⟨by kernel_rfl, rfl⟩) (by assumption) ?_
                    simp only [Act.put, List.setIfInBounds_toArray, List.set_cons_zero, List.set_cons_succ]
                    refine wpAnyH_take (i := 14) (oi := { dst := some 96, op := Op.load 3 (Operand.tmp 95), type := 3, pos := "law.go:191", after := #[{ on := 13, ground := Ground.data }, { on := 9, ground := Ground.guard }], guard := some (9, false) }) (v := undef) rfl (by kernel_rfl) (by kernel_rfl) (by kernel_rfl) (fun _ _ _ h => h) (Or.inr ⟨by kernel_rfl, rfl⟩) (by assumption) ?_
                    simp only [Act.put, List.setIfInBounds_toArray, List.set_cons_zero, List.set_cons_succ]
                    refine wpAnyH_take (i := 15) (oi := { dst := some 97, op := Op.fieldAddr 26 (Operand.tmp 11) 1, type := 0, pos := "law.go:191", after := #[{ on := 9, ground := Ground.guard }], guard := some (9, false) }) (v := undef) rfl (by kernel_rfl) (by kernel_rfl) (by kernel_rfl) (fun _ _ _ h => h) (Or.inr ⟨by kernel_rfl, rfl⟩) (by assumption) ?_
                    simp only [Act.put, List.setIfInBounds_toArray, List.set_cons_zero, List.set_cons_succ]
                    refine wpAnyH_take (i := 16) (oi := { dst := some 98, op := Op.load 3 (Operand.tmp 97), type := 3, pos := "law.go:191", after := #[{ on := 15, ground := Ground.data }, { on := 9, ground := Ground.guard }], guard := some (9, false) }) (v := undef) rfl (by kernel_rfl) (by kernel_rfl) (by kernel_rfl) (fun _ _ _ h => h) (Or.inr ⟨by kernel_rfl, rfl⟩) (by assumption) ?_
                    simp only [Act.put, List.setIfInBounds_toArray, List.set_cons_zero, List.set_cons_succ]
                    refine wpAnyH_take (i := 17) (oi := { dst := some 99, op := Op.binOp BinOp.gtr 3 (Operand.tmp 96) (Operand.tmp 98) 3, type := 4, pos := "law.go:191", after := #[{ on := 14, ground := Ground.data }, { on := 16, ground := Ground.data }, { on := 9, ground := Ground.guard }], guard := some (9, false) }) (v := undef) rfl (by kernel_rfl) (by kernel_rfl) (by kernel_rfl) (fun _ _ _ h => h) (Or.inr ⟨by kernel_rfl, rfl⟩) (by assumption) ?_
                    simp only [Act.put, List.setIfInBounds_toArray, List.set_cons_zero, List.set_cons_succ]
                    refine wpAnyH_take (i := 18) (oi := { dst := some 100, op := Op.pick (Operand.tmp 91) (Operand.const (Value.bool true)) (Operand.tmp 99), type := 4, pos := "law.go:191", after := #[{ on := 9, ground := Ground.data }, { on := 17, ground := Ground.data }, { on := 6, ground := Ground.guard }], guard := some (6, true) }) (v := ?_) rfl (by kernel_rfl) (by kernel_rfl) (by kernel_rfl) (fun _ _ _ h => h) (Or.inl ⟨by kernel_rfl, ?_⟩) (by assumption) ?_
                    rotate_left 1
                    · (intro w hSw; (try dsimp only at hSw); go_simp); try with_reducible rfl
                    simp only [Act.put, List.setIfInBounds_toArray, List.set_cons_zero, List.set_cons_succ]
                    refine wpAnyH_take (i := 19) (oi := { dst := some 101, op := Op.pick (Operand.tmp 88) (Operand.tmp 100) (Operand.const (Value.bool false)), type := 4, pos := "law.go:191", after := #[{ on := 6, ground := Ground.data }, { on := 18, ground := Ground.data }], guard := none }) (v := ?_) rfl (by kernel_rfl) (by kernel_rfl) (by kernel_rfl) (fun _ _ _ h => h) (Or.inl ⟨by kernel_rfl, ?_⟩) (by assumption) ?_
                    rotate_left 1
                    · (intro w hSw; (try dsimp only at hSw); go_simp); try with_reducible rfl
                    simp only [Act.put, List.setIfInBounds_toArray, List.set_cons_zero, List.set_cons_succ]
                    refine wpAnyH_done (by kernel_rfl) ?_ _
                    go_wp2_with fail
                    have hz := (HT4.out.below HB5.out).setBox (pa i) (pn i) HPd.out hsz (by omega)
                    go_roundg i
                    case measure => omega
                    case rel => exact ⟨s', some p, by omega, by go_num, rfl, hz.1, (by rw [show bstA (some p) = pa i from e1, show bstN (some p) = pn i from e2]; exact hz.2), HCp'.out, by omega, HBp.out⟩
                  | some y =>
                    dsimp only [bstA, bstN, Option.isSome_some] at HCell HPc HBp b0 b1
                    by_cases hy : y.length < p.length
                    · rw [if_pos hy] at HBp
                      have t5 : decide ((y.length : Int) < pn i) = true := by simp; omega
                      have t6 : (y.length : Int) < pn i := by omega
                      refine wp_region_held_drew (S := (fun W' => W'.cell? ⟨b, o + i * 2, none⟩ = some (.int .u32 (pa i)) ∧ W'.cell? ⟨b, o + i * 2 + 1, none⟩ = some (.int .i64 (pn i)) ∧ W'.cell? ⟨B, 0, none⟩ = some (.int .u32 (ka y)) ∧ W'.cell? ⟨B, 1, none⟩ = some (.int .i64 y.length))) (by kernel_rfl) (HCell.out _ (Below.refl w3.heap.size w3).drew) (fun hSw => ?_)
                      refine wpAnyH_take (i := 0) (oi := { dst := some 82, op := Op.move (Operand.tmp 0), type := 50, pos := "law.go:191", after := #[], guard := none }) (v := ?_) rfl (by kernel_rfl) (by kernel_rfl) (by kernel_rfl) (fun _ _ _ h => h) (Or.inl ⟨by kernel_rfl, ?_⟩) (by assumption) ?_
                      rotate_left 1
                      · (intro w hSw; (try dsimp only at hSw); go_simp); try with_reducible rfl
                      simp only [Act.put, List.setIfInBounds_toArray, List.set_cons_zero, List.set_cons_succ]
                      refine wpAnyH_take (i := 1) (oi := { dst := some 83, op := Op.move (Operand.tmp 13), type := 3, pos := "law.go:191", after := #[], guard := none }) (v := ?_) rfl (by kernel_rfl) (by kernel_rfl) (by kernel_rfl) (fun _ _ _ h => h) (Or.inl ⟨by kernel_rfl, ?_⟩) (by assumption) ?_
                      rotate_left 1
                      · (intro w hSw; (try dsimp only at hSw); go_simp); try with_reducible rfl
                      simp only [Act.put, List.setIfInBounds_toArray, List.set_cons_zero, List.set_cons_succ]
                      refine wpAnyH_take (i := 2) (oi := { dst := some 84, op := Op.indexAddr 50 (Operand.tmp 82) (Operand.tmp 83), type := 0, pos := "law.go:191", after := #[{ on := 0, ground := Ground.data }, { on := 1, ground := Ground.data }], guard := none }) (v := ?_) rfl (by kernel_rfl) (by kernel_rfl) (by kernel_rfl) (fun _ _ _ h => h) (Or.inl ⟨by kernel_rfl, ?_⟩) (by assumption) ?_
                      rotate_left 1
                      · (intro w hSw; (try dsimp only at hSw); go_simp); try with_reducible rfl
                      simp only [Act.put, List.setIfInBounds_toArray, List.set_cons_zero, List.set_cons_succ]
                      refine wpAnyH_take (i := 3) (oi := { dst := some 85, op := Op.load 26 (Operand.tmp 84), type := 26, pos := "law.go:191", after := #[{ on := 2, ground := Ground.data }], guard := none }) (v := ?_) rfl (by kernel_rfl) (by kernel_rfl) (by kernel_rfl) (fun _ _ _ h => h) (Or.inl ⟨by kernel_rfl, ?_⟩) (by assumption) ?_
                      rotate_left 1
                      · (intro w hSw; (try dsimp only at hSw); go_simp); try with_reducible rfl
                      simp only [Act.put, List.setIfInBounds_toArray, List.set_cons_zero, List.set_cons_succ]
                      refine wpAnyH_take (i := 4) (oi := { dst := some 86, op := Op.move (Operand.tmp 2), type := 24, pos := "law.go:191", after := #[], guard := none }) (v := ?_) rfl (by kernel_rfl) (by kernel_rfl) (by kernel_rfl) (fun _ _ _ h => h) (Or.inl ⟨by kernel_rfl, ?_⟩) (by assumption) ?_
                      rotate_left 1
                      · (intro w hSw; (try dsimp only at hSw); go_simp); try with_reducible rfl
                      simp only [Act.put, List.setIfInBounds_toArray, List.set_cons_zero, List.set_cons_succ]
                      refine wpAnyH_ready (rs := [5]) (by kernel_rfl) (by simp) (AllReadyH.cons (o := ({ dst := some 87, op := Op.call { callee := Callee.value (Operand.func 21), args := #[Operand.tmp 85, Operand.tmp 86], argTypes := #[26, 24] }, type := 4, pos := "law.go:191", after := #[{ on := 3, ground := Ground.data }, { on := 4, ground := Ground.data }], guard := none } : Oper)) rfl (fun K hK => ?_) AllReadyH.nil)
                      go_simp
                      with_reducible refine (HH.out _).mono ?_
                      rintro e w5 ⟨rfl, hb⟩
                      have hb5 := bthen (Below.refl w3.heap.size w3).drew hb
                      refine hK.out _ _ (HCell.out _ hb5) (fun hSw5 => ?_)
                      clear hK K hSw
                      have HB5 := Lib.hid hb5
                      have HPd := Lib.hid (HPc.out.below hb5)
                      have g0 := HPd.out.f0
                      have g1 := HPd.out.f1
                      have d0 := cellB hb5 c0
                      have d1 := cellB hb5 c1
                      have d2 := HPd.out.c0
                      have d3 := HPd.out.c1
                      clear hb hb5
                      refine wpAnyH_take (i := 6) (oi := { dst := some 88, op := Op.move (Operand.tmp 87), type := 4, pos := "law.go:191", after := #[{ on := 5, ground := Ground.data }, { on := 5, ground := Ground.chain }], guard := none }) (v := ?_) rfl (by kernel_rfl) (by kernel_rfl) (by kernel_rfl) (fun _ _ _ h => h) (Or.inl ⟨by kernel_rfl, ?_⟩) (by assumption) ?_
                      rotate_left 1
                      · (intro w hSw; (try dsimp only at hSw); go_simp); try with_reducible rfl
                      simp only [Act.put, List.setIfInBounds_toArray, List.set_cons_zero, List.set_cons_succ]
                      refine wpAnyH_take (i := 7) (oi := { dst := some 89, op := Op.move (Operand.tmp 12), type := 4, pos := "law.go:191", after := #[{ on := 6, ground := Ground.guard }], guard := some (6, true) }) (v := ?_) rfl (by kernel_rfl) (by kernel_rfl) (by kernel_rfl) (fun _ _ _ h => h) (Or.inl ⟨by kernel_rfl, ?_⟩) (by assumption) ?_
                      rotate_left 1
                      · (intro w hSw; (try dsimp only at hSw); go_simp); try with_reducible rfl
                      simp only [Act.put, List.setIfInBounds_toArray, List.set_cons_zero, List.set_cons_succ]
                      refine wpAnyH_take (i := 8) (oi := { dst := some 90, op := Op.unOp UnOp.not 4 (Operand.tmp 89), type := 4, pos := "law.go:191", after := #[{ on := 7, ground := Ground.data }, { on := 6, ground := Ground.guard }], guard := some (6, true) }) (v := ?_) rfl (by kernel_rfl) (by kernel_rfl) (by kernel_rfl) (fun _ _ _ h => h) (Or.inl ⟨by kernel_rfl, ?_⟩) (by assumption) ?_
                      rotate_left 1
                      · (intro w hSw; (try dsimp only at hSw); go_simp); try with_reducible rfl
                      simp only [Act.put, List.setIfInBounds_toArray, List.set_cons_zero, List.set_cons_succ]
                      refine wpAnyH_take (i := 9) (oi := { dst := some 91, op := Op.move (Operand.tmp 90), type := 4, pos := "law.go:191", after := #[{ on := 8, ground := Ground.data }, { on := 6, ground := Ground.chain }, { on := 6, ground := Ground.guard }], guard := some (6, true) }) (v := ?_) rfl (by kernel_rfl) (by kernel_rfl) (by kernel_rfl) (fun _ _ _ h => h) (Or.inl ⟨by kernel_rfl, ?_⟩) (by assumption) ?_
                      rotate_left 1
                      · (intro w hSw; (try dsimp only at hSw); go_simp); try with_reducible rfl
                      simp only [Act.put, List.setIfInBounds_toArray, List.set_cons_zero, List.set_cons_succ]
                      refine wpAnyH_take (i := 10) (oi := { dst := some 92, op := Op.move (Operand.tmp 0), type := 50, pos := "law.go:191", after := #[{ on := 9, ground := Ground.guard }], guard := some (9, false) }) (v := ?_) rfl (by kernel_rfl) (by kernel_rfl) (by kernel_rfl) (fun _ _ _ h => h) (Or.inl ⟨by kernel_rfl, ?_⟩) (by assumption) ?_
                      rotate_left 1
                      · (intro w hSw; (try dsimp only at hSw); go_simp); try with_reducible rfl
                      simp only [Act.put, List.setIfInBounds_toArray, List.set_cons_zero, List.set_cons_succ]
                      refine wpAnyH_take (i := 11) (oi := { dst := some 93, op := Op.move (Operand.tmp 13), type := 3, pos := "law.go:191", after := #[{ on := 9, ground := Ground.guard }], guard := some (9, false) }) (v := ?_) rfl (by kernel_rfl) (by kernel_rfl) (by kernel_rfl) (fun _ _ _ h => h) (Or.inl ⟨by kernel_rfl, ?_⟩) (by assumption) ?_
                      rotate_left 1
                      · (intro w hSw; (try dsimp only at hSw); go_simp); try with_reducible rfl
                      simp only [Act.put, List.setIfInBounds_toArray, List.set_cons_zero, List.set_cons_succ]
                      refine wpAnyH_take (i := 12) (oi := { dst := some 94, op := Op.indexAddr 50 (Operand.tmp 92) (Operand.tmp 93), type := 0, pos := "law.go:191", after := #[{ on := 10, ground := Ground.data }, { on := 11, ground := Ground.data }, { on := 9, ground := Ground.guard }], guard := some (9, false) }) (v := ?_) rfl (by kernel_rfl) (by kernel_rfl) (by kernel_rfl) (fun _ _ _ h => h) (Or.inl ⟨by kernel_rfl, ?_⟩) (by assumption) ?_
                      rotate_left 1
                      · (intro w hSw; (try dsimp only at hSw); go_simp); try with_reducible rfl
                      simp only [Act.put, List.setIfInBounds_toArray, List.set_cons_zero, List.set_cons_succ]
                      refine wpAnyH_take (i := 13) (oi := { dst := some 95, op := Op.fieldAddr 26 (Operand.tmp 94) 1, type := 0, pos := "law.go:191", after := #[{ on := 12, ground := Ground.data }, { on := 9, ground := Ground.guard }], guard := some (9, false) }) (v := ?_) rfl (by kernel_rfl) (by kernel_rfl) (by kernel_rfl) (fun _ _ _ h => h) (Or.inl ⟨by kernel_rfl, ?_⟩) (by assumption) ?_
                      rotate_left 1
                      · (intro w hSw; (try dsimp only at hSw); go_simp); try with_reducible rfl
                      simp only [Act.put, List.setIfInBounds_toArray, List.set_cons_zero, List.set_cons_succ]
                      refine wpAnyH_take (i := 14) (oi := { dst := some 96, op := Op.load 3 (Operand.tmp 95), type := 3, pos := "law.go:191", after := #[{ on := 13, ground := Ground.data }, { on := 9, ground := Ground.guard }], guard := some (9, false) }) (v := ?_) rfl (by kernel_rfl) (by kernel_rfl) (by kernel_rfl) (fun _ _ _ h => h) (Or.inl ⟨by kernel_rfl, ?_⟩) (by assumption) ?_
                      rotate_left 1
                      · (intro w hSw; (try dsimp only at hSw); go_simp); try with_reducible rfl
                      simp only [Act.put, List.setIfInBounds_toArray, List.set_cons_zero, List.set_cons_succ]
                      refine wpAnyH_take (i := 15) (oi := { dst := some 97, op := Op.fieldAddr 26 (Operand.tmp 11) 1, type := 0, pos := "law.go:191", after := #[{ on := 9, ground := Ground.guard }], guard := some (9, false) }) (v := ?_) rfl (by kernel_rfl) (by kernel_rfl) (by kernel_rfl) (fun _ _ _ h => h) (Or.inl ⟨by kernel_rfl, ?_⟩) (by assumption) ?_
                      rotate_left 1
                      · (intro w hSw; (try dsimp only at hSw); go_simp); try with_reducible rfl
                      simp only [Act.put, List.setIfInBounds_toArray, List.set_cons_zero, List.set_cons_succ]
                      refine wpAnyH_take (i := 16) (oi := { dst := some 98, op := Op.load 3 (Operand.tmp 97), type := 3, pos := "law.go:191", after := #[{ on := 15, ground := Ground.data }, { on := 9, ground := Ground.guard }], guard := some (9, false) }) (v := ?_) rfl (by kernel_rfl) (by kernel_rfl) (by kernel_rfl) (fun _ _ _ h => h) (Or.inl ⟨by kernel_rfl, ?_⟩) (by assumption) ?_
                      rotate_left 1
                      · (intro w hSw; (try dsimp only at hSw); go_simp); try with_reducible rfl
                      simp only [Act.put, List.setIfInBounds_toArray, List.set_cons_zero, List.set_cons_succ]
                      refine wpAnyH_take (i := 17) (oi := { dst := some 99, op := Op.binOp BinOp.gtr 3 (Operand.tmp 96) (Operand.tmp 98) 3, type := 4, pos := "law.go:191", after := #[{ on := 14, ground := Ground.data }, { on := 16, ground := Ground.data }, { on := 9, ground := Ground.guard }], guard := some (9, false) }) (v := ?_) rfl (by kernel_rfl) (by kernel_rfl) (by kernel_rfl) (fun _ _ _ h => h) (Or.inl ⟨by kernel_rfl, ?_⟩) (by assumption) ?_
                      rotate_left 1
                      · (intro w hSw; (try dsimp only at hSw); go_simp); try with_reducible rfl
                      simp only [Act.put, List.setIfInBounds_toArray, List.set_cons_zero, List.set_cons_succ]
                      refine wpAnyH_take (i := 18) (oi := { dst := some 100, op := Op.pick (Operand.tmp 91) (Operand.const (Value.bool true)) (Operand.tmp 99), type := 4, pos := "law.go:191", after := #[{ on := 9, ground := Ground.data }, { on := 17, ground := Ground.data }, { on := 6, ground := Ground.guard }], guard := some (6, true) }) (v := ?_) rfl (by kernel_rfl) (by kernel_rfl) (by kernel_rfl) (fun _ _ _ h => h) (Or.inl ⟨by kernel_rfl, ?_⟩) (by assumption) ?_
                      rotate_left 1
                      · (intro w hSw; (try dsimp only at hSw); go_simp); try with_reducible rfl
                      simp only [Act.put, List.setIfInBounds_toArray, List.set_cons_zero, List.set_cons_succ]
                      refine wpAnyH_take (i := 19) (oi := { dst := some 101, op := Op.pick (Operand.tmp 88) (Operand.tmp 100) (Operand.const (Value.bool false)), type := 4, pos := "law.go:191", after := #[{ on := 6, ground := Ground.data }, { on := 18, ground := Ground.data }], guard := none }) (v := ?_) rfl (by kernel_rfl) (by kernel_rfl) (by kernel_rfl) (fun _ _ _ h => h) (Or.inl ⟨by kernel_rfl, ?_⟩) (by assumption) ?_
                      rotate_left 1
                      · (intro w hSw; (try dsimp only at hSw); go_simp); try with_reducible rfl
                      simp only [Act.put, List.setIfInBounds_toArray, List.set_cons_zero, List.set_cons_succ]
                      refine wpAnyH_done (by kernel_rfl) ?_ _
                      go_wp2_with fail
                      have hz := (HT4.out.below HB5.out).setBox (pa i) (pn i) HPd.out hsz (by omega)
                      go_roundg i
                      case measure => omega
                      case rel => exact ⟨s', some p, by omega, by go_num, rfl, hz.1, (by rw [show bstA (some p) = pa i from e1, show bstN (some p) = pn i from e2]; exact hz.2), HCp'.out, by omega, HBp.out⟩
                    · rw [if_neg hy] at HBp
                      have t5 : decide ((y.length : Int) < pn i) = false := by simp; omega
                      have t6 : ¬ (y.length : Int) < pn i := by omega
                      refine wp_region_held_drew (S := (fun W' => W'.cell? ⟨b, o + i * 2, none⟩ = some (.int .u32 (pa i)) ∧ W'.cell? ⟨b, o + i * 2 + 1, none⟩ = some (.int .i64 (pn i)) ∧ W'.cell? ⟨B, 0, none⟩ = some (.int .u32 (ka y)) ∧ W'.cell? ⟨B, 1, none⟩ = some (.int .i64 y.length))) (by kernel_rfl) (HCell.out _ (Below.refl w3.heap.size w3).drew) (fun hSw => ?_)
                      refine wpAnyH_take (i := 0) (oi := { dst := some 82, op := Op.move (Operand.tmp 0), type := 50, pos := "law.go:191", after := #[], guard := none }) (v := ?_) rfl (by kernel_rfl) (by kernel_rfl) (by kernel_rfl) (fun _ _ _ h => h) (Or.inl ⟨by kernel_rfl, ?_⟩) (by assumption) ?_
                      rotate_left 1
                      · (intro w hSw; (try dsimp only at hSw); go_simp); try with_reducible rfl
                      simp only [Act.put, List.setIfInBounds_toArray, List.set_cons_zero, List.set_cons_succ]
                      refine wpAnyH_take (i := 1) (oi := { dst := some 83, op := Op.move (Operand.tmp 13), type := 3, pos := "law.go:191", after := #[], guard := none }) (v := ?_) rfl (by kernel_rfl) (by kernel_rfl) (by kernel_rfl) (fun _ _ _ h => h) (Or.inl ⟨by kernel_rfl, ?_⟩) (by assumption) ?_
                      rotate_left 1
                      · (intro w hSw; (try dsimp only at hSw); go_simp); try with_reducible rfl
                      simp only [Act.put, List.setIfInBounds_toArray, List.set_cons_zero, List.set_cons_succ]
                      refine wpAnyH_take (i := 2) (oi := { dst := some 84, op := Op.indexAddr 50 (Operand.tmp 82) (Operand.tmp 83), type := 0, pos := "law.go:191", after := #[{ on := 0, ground := Ground.data }, { on := 1, ground := Ground.data }], guard := none }) (v := ?_) rfl (by kernel_rfl) (by kernel_rfl) (by kernel_rfl) (fun _ _ _ h => h) (Or.inl ⟨by kernel_rfl, ?_⟩) (by assumption) ?_
                      rotate_left 1
                      · (intro w hSw; (try dsimp only at hSw); go_simp); try with_reducible rfl
                      simp only [Act.put, List.setIfInBounds_toArray, List.set_cons_zero, List.set_cons_succ]
                      refine wpAnyH_take (i := 3) (oi := { dst := some 85, op := Op.load 26 (Operand.tmp 84), type := 26, pos := "law.go:191", after := #[{ on := 2, ground := Ground.data }], guard := none }) (v := ?_) rfl (by kernel_rfl) (by kernel_rfl) (by kernel_rfl) (fun _ _ _ h => h) (Or.inl ⟨by kernel_rfl, ?_⟩) (by assumption) ?_
                      rotate_left 1
                      · (intro w hSw; (try dsimp only at hSw); go_simp); try with_reducible rfl
                      simp only [Act.put, List.setIfInBounds_toArray, List.set_cons_zero, List.set_cons_succ]
                      refine wpAnyH_take (i := 4) (oi := { dst := some 86, op := Op.move (Operand.tmp 2), type := 24, pos := "law.go:191", after := #[], guard := none }) (v := ?_) rfl (by kernel_rfl) (by kernel_rfl) (by kernel_rfl) (fun _ _ _ h => h) (Or.inl ⟨by kernel_rfl, ?_⟩) (by assumption) ?_
                      rotate_left 1
                      · (intro w hSw; (try dsimp only at hSw); go_simp); try with_reducible rfl
                      simp only [Act.put, List.setIfInBounds_toArray, List.set_cons_zero, List.set_cons_succ]
                      refine wpAnyH_ready (rs := [5]) (by kernel_rfl) (by simp) (AllReadyH.cons (o := ({ dst := some 87, op := Op.call { callee := Callee.value (Operand.func 21), args := #[Operand.tmp 85, Operand.tmp 86], argTypes := #[26, 24] }, type := 4, pos := "law.go:191", after := #[{ on := 3, ground := Ground.data }, { on := 4, ground := Ground.data }], guard := none } : Oper)) rfl (fun K hK => ?_) AllReadyH.nil)
                      go_simp
                      with_reducible refine (HH.out _).mono ?_
                      rintro e w5 ⟨rfl, hb⟩
                      have hb5 := bthen (Below.refl w3.heap.size w3).drew hb
                      refine hK.out _ _ (HCell.out _ hb5) (fun hSw5 => ?_)
                      clear hK K hSw
                      have HB5 := Lib.hid hb5
                      have HPd := Lib.hid (HPc.out.below hb5)
                      have g0 := HPd.out.f0
                      have g1 := HPd.out.f1
                      have d0 := cellB hb5 c0
                      have d1 := cellB hb5 c1
                      have d2 := HPd.out.c0
                      have d3 := HPd.out.c1
                      clear hb hb5
                      refine wpAnyH_take (i := 6) (oi := { dst := some 88, op := Op.move (Operand.tmp 87), type := 4, pos := "law.go:191", after := #[{ on := 5, ground := Ground.data }, { on := 5, ground := Ground.chain }], guard := none }) (v := ?_) rfl (by kernel_rfl) (by kernel_rfl) (by kernel_rfl) (fun _ _ _ h => h) (Or.inl ⟨by kernel_rfl, ?_⟩) (by assumption) ?_
                      rotate_left 1
                      · (intro w hSw; (try dsimp only at hSw); go_simp); try with_reducible rfl
                      simp only [Act.put, List.setIfInBounds_toArray, List.set_cons_zero, List.set_cons_succ]
                      refine wpAnyH_take (i := 7) (oi := { dst := some 89, op := Op.move (Operand.tmp 12), type := 4, pos := "law.go:191", after := #[{ on := 6, ground := Ground.guard }], guard := some (6, true) }) (v := ?_) rfl (by kernel_rfl) (by kernel_rfl) (by kernel_rfl) (fun _ _ _ h => h) (Or.inl ⟨by kernel_rfl, ?_⟩) (by assumption) ?_
                      rotate_left 1
                      · (intro w hSw; (try dsimp only at hSw); go_simp); try with_reducible rfl
                      simp only [Act.put, List.setIfInBounds_toArray, List.set_cons_zero, List.set_cons_succ]
                      refine wpAnyH_take (i := 8) (oi := { dst := some 90, op := Op.unOp UnOp.not 4 (Operand.tmp 89), type := 4, pos := "law.go:191", after := #[{ on := 7, ground := Ground.data }, { on := 6, ground := Ground.guard }], guard := some (6, true) }) (v := ?_) rfl (by kernel_rfl) (by kernel_rfl) (by kernel_rfl) (fun _ _ _ h => h) (Or.inl ⟨by kernel_rfl, ?_⟩) (by assumption) ?_
                      rotate_left 1
                      · (intro w hSw; (try dsimp only at hSw); go_simp); try with_reducible rfl
                      simp only [Act.put, List.setIfInBounds_toArray, List.set_cons_zero, List.set_cons_succ]
                      refine wpAnyH_take (i := 9) (oi := { dst := some 91, op := Op.move (Operand.tmp 90), type := 4, pos := "law.go:191", after := #[{ on := 8, ground := Ground.data }, { on := 6, ground := Ground.chain }, { on := 6, ground := Ground.guard }], guard := some (6, true) }) (v := ?_) rfl (by kernel_rfl) (by kernel_rfl) (by kernel_rfl) (fun _ _ _ h => h) (Or.inl ⟨by kernel_rfl, ?_⟩) (by assumption) ?_
                      rotate_left 1
                      · (intro w hSw; (try dsimp only at hSw); go_simp); try with_reducible rfl
                      simp only [Act.put, List.setIfInBounds_toArray, List.set_cons_zero, List.set_cons_succ]
                      refine wpAnyH_take (i := 10) (oi := { dst := some 92, op := Op.move (Operand.tmp 0), type := 50, pos := "law.go:191", after := #[{ on := 9, ground := Ground.guard }], guard := some (9, false) }) (v := ?_) rfl (by kernel_rfl) (by kernel_rfl) (by kernel_rfl) (fun _ _ _ h => h) (Or.inl ⟨by kernel_rfl, ?_⟩) (by assumption) ?_
                      rotate_left 1
                      · (intro w hSw; (try dsimp only at hSw); go_simp); try with_reducible rfl
                      simp only [Act.put, List.setIfInBounds_toArray, List.set_cons_zero, List.set_cons_succ]
                      refine wpAnyH_take (i := 11) (oi := { dst := some 93, op := Op.move (Operand.tmp 13), type := 3, pos := "law.go:191", after := #[{ on := 9, ground := Ground.guard }], guard := some (9, false) }) (v := ?_) rfl (by kernel_rfl) (by kernel_rfl) (by kernel_rfl) (fun _ _ _ h => h) (Or.inl ⟨by kernel_rfl, ?_⟩) (by assumption) ?_
                      rotate_left 1
                      · (intro w hSw; (try dsimp only at hSw); go_simp); try with_reducible rfl
                      simp only [Act.put, List.setIfInBounds_toArray, List.set_cons_zero, List.set_cons_succ]
                      refine wpAnyH_take (i := 12) (oi := { dst := some 94, op := Op.indexAddr 50 (Operand.tmp 92) (Operand.tmp 93), type := 0, pos := "law.go:191", after := #[{ on := 10, ground := Ground.data }, { on := 11, ground := Ground.data }, { on := 9, ground := Ground.guard }], guard := some (9, false) }) (v := ?_) rfl (by kernel_rfl) (by kernel_rfl) (by kernel_rfl) (fun _ _ _ h => h) (Or.inl ⟨by kernel_rfl, ?_⟩) (by assumption) ?_
                      rotate_left 1
                      · (intro w hSw; (try dsimp only at hSw); go_simp); try with_reducible rfl
                      simp only [Act.put, List.setIfInBounds_toArray, List.set_cons_zero, List.set_cons_succ]
                      refine wpAnyH_take (i := 13) (oi := { dst := some 95, op := Op.fieldAddr 26 (Operand.tmp 94) 1, type := 0, pos := "law.go:191", after := #[{ on := 12, ground := Ground.data }, { on := 9, ground := Ground.guard }], guard := some (9, false) }) (v := ?_) rfl (by kernel_rfl) (by kernel_rfl) (by kernel_rfl) (fun _ _ _ h => h) (Or.inl ⟨by kernel_rfl, ?_⟩) (by assumption) ?_
                      rotate_left 1
                      · (intro w hSw; (try dsimp only at hSw); go_simp); try with_reducible rfl
                      simp only [Act.put, List.setIfInBounds_toArray, List.set_cons_zero, List.set_cons_succ]
                      refine wpAnyH_take (i := 14) (oi := { dst := some 96, op := Op.load 3 (Operand.tmp 95), type := 3, pos := "law.go:191", after := #[{ on := 13, ground := Ground.data }, { on := 9, ground := Ground.guard }], guard := some (9, false) }) (v := ?_) rfl (by kernel_rfl) (by kernel_rfl) (by kernel_rfl) (fun _ _ _ h => h) (Or.inl ⟨by kernel_rfl, ?_⟩) (by assumption) ?_
                      rotate_left 1
                      · (intro w hSw; (try dsimp only at hSw); go_simp); try with_reducible rfl
                      simp only [Act.put, List.setIfInBounds_toArray, List.set_cons_zero, List.set_cons_succ]
                      refine wpAnyH_take (i := 15) (oi := { dst := some 97, op := Op.fieldAddr 26 (Operand.tmp 11) 1, type := 0, pos := "law.go:191", after := #[{ on := 9, ground := Ground.guard }], guard := some (9, false) }) (v := ?_) rfl (by kernel_rfl) (by kernel_rfl) (by kernel_rfl) (fun _ _ _ h => h) (Or.inl ⟨by kernel_rfl, ?_⟩) (by assumption) ?_
                      rotate_left 1
                      · (intro w hSw; (try dsimp only at hSw); go_simp); try with_reducible rfl
                      simp only [Act.put, List.setIfInBounds_toArray, List.set_cons_zero, List.set_cons_succ]
                      refine wpAnyH_take (i := 16) (oi := { dst := some 98, op := Op.load 3 (Operand.tmp 97), type := 3, pos := "law.go:191", after := #[{ on := 15, ground := Ground.data }, { on := 9, ground := Ground.guard }], guard := some (9, false) }) (v := ?_) rfl (by kernel_rfl) (by kernel_rfl) (by kernel_rfl) (fun _ _ _ h => h) (Or.inl ⟨by kernel_rfl, ?_⟩) (by assumption) ?_
                      rotate_left 1
                      · (intro w hSw; (try dsimp only at hSw); go_simp); try with_reducible rfl
                      simp only [Act.put, List.setIfInBounds_toArray, List.set_cons_zero, List.set_cons_succ]
                      refine wpAnyH_take (i := 17) (oi := { dst := some 99, op := Op.binOp BinOp.gtr 3 (Operand.tmp 96) (Operand.tmp 98) 3, type := 4, pos := "law.go:191", after := #[{ on := 14, ground := Ground.data }, { on := 16, ground := Ground.data }, { on := 9, ground := Ground.guard }], guard := some (9, false) }) (v := ?_) rfl (by kernel_rfl) (by kernel_rfl) (by kernel_rfl) (fun _ _ _ h => h) (Or.inl ⟨by kernel_rfl, ?_⟩) (by assumption) ?_
                      rotate_left 1
                      · (intro w hSw; (try dsimp only at hSw); go_simp); try with_reducible rfl
                      simp only [Act.put, List.setIfInBounds_toArray, List.set_cons_zero, List.set_cons_succ]
                      refine wpAnyH_take (i := 18) (oi := { dst := some 100, op := Op.pick (Operand.tmp 91) (Operand.const (Value.bool true)) (Operand.tmp 99), type := 4, pos := "law.go:191", after := #[{ on := 9, ground := Ground.data }, { on := 17, ground := Ground.data }, { on := 6, ground := Ground.guard }], guard := some (6, true) }) (v := ?_) rfl (by kernel_rfl) (by kernel_rfl) (by kernel_rfl) (fun _ _ _ h => h) (Or.inl ⟨by kernel_rfl, ?_⟩) (by assumption) ?_
                      rotate_left 1
                      · (intro w hSw; (try dsimp only at hSw); go_simp); try with_reducible rfl
                      simp only [Act.put, List.setIfInBounds_toArray, List.set_cons_zero, List.set_cons_succ]
                      refine wpAnyH_take (i := 19) (oi := { dst := some 101, op := Op.pick (Operand.tmp 88) (Operand.tmp 100) (Operand.const (Value.bool false)), type := 4, pos := "law.go:191", after := #[{ on := 6, ground := Ground.data }, { on := 18, ground := Ground.data }], guard := none }) (v := ?_) rfl (by kernel_rfl) (by kernel_rfl) (by kernel_rfl) (fun _ _ _ h => h) (Or.inl ⟨by kernel_rfl, ?_⟩) (by assumption) ?_
                      rotate_left 1
                      · (intro w hSw; (try dsimp only at hSw); go_simp); try with_reducible rfl
                      simp only [Act.put, List.setIfInBounds_toArray, List.set_cons_zero, List.set_cons_succ]
                      refine wpAnyH_done (by kernel_rfl) ?_ _
                      go_wp2_with fail
                      go_roundg i
                      case measure => omega
                      case rel => exact ⟨s', some y, by omega, by go_num, rfl, HT4.out.below HB5.out, HPd.out, HCp'.out, by omega, HBp.out⟩
                · rw [decide_eq_false hp] at HH
                  rw [if_neg hp] at HBp
                  refine wp_region_held_drew (S := (fun W' => W'.cell? ⟨b, o + i * 2, none⟩ = some (.int .u32 (pa i)) ∧ W'.cell? ⟨b, o + i * 2 + 1, none⟩ = some (.int .i64 (pn i)) ∧ W'.cell? ⟨B, 0, none⟩ = some (.int .u32 (bstA bst)) ∧ W'.cell? ⟨B, 1, none⟩ = some (.int .i64 (bstN bst)))) (by kernel_rfl) (HCell.out _ (Below.refl w3.heap.size w3).drew) (fun hSw => ?_)
                  refine wpAnyH_take (i := 0) (oi := { dst := some 82, op := Op.move (Operand.tmp 0), type := 50, pos := "law.go:191", after := #[], guard := none }) (v := ?_) rfl (by kernel_rfl) (by kernel_rfl) (by kernel_rfl) (fun _ _ _ h => h) (Or.inl ⟨by kernel_rfl, ?_⟩) (by assumption) ?_
                  rotate_left 1
                  · (intro w hSw; (try dsimp only at hSw); go_simp); try with_reducible rfl
                  simp only [Act.put, List.setIfInBounds_toArray, List.set_cons_zero, List.set_cons_succ]
                  refine wpAnyH_take (i := 1) (oi := { dst := some 83, op := Op.move (Operand.tmp 13), type := 3, pos := "law.go:191", after := #[], guard := none }) (v := ?_) rfl (by kernel_rfl) (by kernel_rfl) (by kernel_rfl) (fun _ _ _ h => h) (Or.inl ⟨by kernel_rfl, ?_⟩) (by assumption) ?_
                  rotate_left 1
                  · (intro w hSw; (try dsimp only at hSw); go_simp); try with_reducible rfl
                  simp only [Act.put, List.setIfInBounds_toArray, List.set_cons_zero, List.set_cons_succ]
                  refine wpAnyH_take (i := 2) (oi := { dst := some 84, op := Op.indexAddr 50 (Operand.tmp 82) (Operand.tmp 83), type := 0, pos := "law.go:191", after := #[{ on := 0, ground := Ground.data }, { on := 1, ground := Ground.data }], guard := none }) (v := ?_) rfl (by kernel_rfl) (by kernel_rfl) (by kernel_rfl) (fun _ _ _ h => h) (Or.inl ⟨by kernel_rfl, ?_⟩) (by assumption) ?_
                  rotate_left 1
                  · (intro w hSw; (try dsimp only at hSw); go_simp); try with_reducible rfl
                  simp only [Act.put, List.setIfInBounds_toArray, List.set_cons_zero, List.set_cons_succ]
                  refine wpAnyH_take (i := 3) (oi := { dst := some 85, op := Op.load 26 (Operand.tmp 84), type := 26, pos := "law.go:191", after := #[{ on := 2, ground := Ground.data }], guard := none }) (v := ?_) rfl (by kernel_rfl) (by kernel_rfl) (by kernel_rfl) (fun _ _ _ h => h) (Or.inl ⟨by kernel_rfl, ?_⟩) (by assumption) ?_
                  rotate_left 1
                  · (intro w hSw; (try dsimp only at hSw); go_simp); try with_reducible rfl
                  simp only [Act.put, List.setIfInBounds_toArray, List.set_cons_zero, List.set_cons_succ]
                  refine wpAnyH_take (i := 4) (oi := { dst := some 86, op := Op.move (Operand.tmp 2), type := 24, pos := "law.go:191", after := #[], guard := none }) (v := ?_) rfl (by kernel_rfl) (by kernel_rfl) (by kernel_rfl) (fun _ _ _ h => h) (Or.inl ⟨by kernel_rfl, ?_⟩) (by assumption) ?_
                  rotate_left 1
                  · (intro w hSw; (try dsimp only at hSw); go_simp); try with_reducible rfl
                  simp only [Act.put, List.setIfInBounds_toArray, List.set_cons_zero, List.set_cons_succ]
                  refine wpAnyH_ready (rs := [5]) (by kernel_rfl) (by simp) (AllReadyH.cons (o := ({ dst := some 87, op := Op.call { callee := Callee.value (Operand.func 21), args := #[Operand.tmp 85, Operand.tmp 86], argTypes := #[26, 24] }, type := 4, pos := "law.go:191", after := #[{ on := 3, ground := Ground.data }, { on := 4, ground := Ground.data }], guard := none } : Oper)) rfl (fun K hK => ?_) AllReadyH.nil)
                  go_simp
                  with_reducible refine (HH.out _).mono ?_
                  rintro e w5 ⟨rfl, hb⟩
                  have hb5 := bthen (Below.refl w3.heap.size w3).drew hb
                  refine hK.out _ _ (HCell.out _ hb5) (fun hSw5 => ?_)
                  clear hK K hSw
                  have HB5 := Lib.hid hb5
                  have HPd := Lib.hid (HPc.out.below hb5)
                  have g0 := HPd.out.f0
                  have g1 := HPd.out.f1
                  have d0 := cellB hb5 c0
                  have d1 := cellB hb5 c1
                  have d2 := HPd.out.c0
                  have d3 := HPd.out.c1
                  clear hb hb5
                  refine wpAnyH_take (i := 6) (oi := { dst := some 88, op := Op.move (Operand.tmp 87), type := 4, pos := "law.go:191", after := #[{ on := 5, ground := Ground.data }, { on := 5, ground := Ground.chain }], guard := none }) (v := ?_) rfl (by kernel_rfl) (by kernel_rfl) (by kernel_rfl) (fun _ _ _ h => h) (Or.inl ⟨by kernel_rfl, ?_⟩) (by assumption) ?_
                  rotate_left 1
                  · (intro w hSw; (try dsimp only at hSw); go_simp); try with_reducible rfl
                  simp only [Act.put, List.setIfInBounds_toArray, List.set_cons_zero, List.set_cons_succ]
                  refine wpAnyH_take (i := 7) (oi := { dst := some 89, op := Op.move (Operand.tmp 12), type := 4, pos := "law.go:191", after := #[{ on := 6, ground := Ground.guard }], guard := some (6, true) }) (v := undef) rfl (by kernel_rfl) (by kernel_rfl) (by kernel_rfl) (fun _ _ _ h => h) (Or.inr ⟨by kernel_rfl, rfl⟩) (by assumption) ?_
                  simp only [Act.put, List.setIfInBounds_toArray, List.set_cons_zero, List.set_cons_succ]
                  refine wpAnyH_take (i := 8) (oi := { dst := some 90, op := Op.unOp UnOp.not 4 (Operand.tmp 89), type := 4, pos := "law.go:191", after := #[{ on := 7, ground := Ground.data }, { on := 6, ground := Ground.guard }], guard := some (6, true) }) (v := undef) rfl (by kernel_rfl) (by kernel_rfl) (by kernel_rfl) (fun _ _ _ h => h) (Or.inr ⟨by kernel_rfl, rfl⟩) (by assumption) ?_
                  simp only [Act.put, List.setIfInBounds_toArray, List.set_cons_zero, List.set_cons_succ]
                  refine wpAnyH_take (i := 9) (oi := { dst := some 91, op := Op.move (Operand.tmp 90), type := 4, pos := "law.go:191", after := #[{ on := 8, ground := Ground.data }, { on := 6, ground := Ground.chain }, { on := 6, ground := Ground.guard }], guard := some (6, true) }) (v := undef) rfl (by kernel_rfl) (by kernel_rfl) (by kernel_rfl) (fun _ _ _ h => h) (Or.inr ⟨by kernel_rfl, rfl⟩) (by assumption) ?_
                  simp only [Act.put, List.setIfInBounds_toArray, List.set_cons_zero, List.set_cons_succ]
                  refine wpAnyH_take (i := 10) (oi := { dst := some 92, op := Op.move (Operand.tmp 0), type := 50, pos := "law.go:191", after := #[{ on := 9, ground := Ground.guard }], guard := some (9, false) }) (v := undef) rfl (by kernel_rfl) (by kernel_rfl) (by kernel_rfl) (fun _ _ _ h => h) (Or.inr ⟨by kernel_rfl, rfl⟩) (by assumption) ?_
                  simp only [Act.put, List.setIfInBounds_toArray, List.set_cons_zero, List.set_cons_succ]
                  refine wpAnyH_take (i := 11) (oi := { dst := some 93, op := Op.move (Operand.tmp 13), type := 3, pos := "law.go:191", after := #[{ on := 9, ground := Ground.guard }], guard := some (9, false) }) (v := undef) rfl (by kernel_rfl) (by kernel_rfl) (by kernel_rfl) (fun _ _ _ h => h) (Or.inr ⟨by kernel_rfl, rfl⟩) (by assumption) ?_
                  simp only [Act.put, List.setIfInBounds_toArray, List.set_cons_zero, List.set_cons_succ]
                  refine wpAnyH_take (i := 12) (oi := { dst := some 94, op := Op.indexAddr 50 (Operand.tmp 92) (Operand.tmp 93), type := 0, pos := "law.go:191", after := #[{ on := 10, ground := Ground.data }, { on := 11, ground := Ground.data }, { on := 9, ground := Ground.guard }], guard := some (9, false) }) (v := undef) rfl (by kernel_rfl) (by kernel_rfl) (by kernel_rfl) (fun _ _ _ h => h) (Or.inr ⟨by kernel_rfl, rfl⟩) (by assumption) ?_
                  simp only [Act.put, List.setIfInBounds_toArray, List.set_cons_zero, List.set_cons_succ]
                  refine wpAnyH_take (i := 13) (oi := { dst := some 95, op := Op.fieldAddr 26 (Operand.tmp 94) 1, type := 0, pos := "law.go:191", after := #[{ on := 12, ground := Ground.data }, { on := 9, ground := Ground.guard }], guard := some (9, false) }) (v := undef) rfl (by kernel_rfl) (by kernel_rfl) (by kernel_rfl) (fun _ _ _ h => h) (Or.inr ⟨by kernel_rfl, rfl⟩) (by assumption) ?_
                  simp only [Act.put, List.setIfInBounds_toArray, List.set_cons_zero, List.set_cons_succ]
                  refine wpAnyH_take (i := 14) (oi := { dst := some 96, op := Op.load 3 (Operand.tmp 95), type := 3, pos := "law.go:191", after := #[{ on := 13, ground := Ground.data }, { on := 9, ground := Ground.guard }], guard := some (9, false) }) (v := undef) rfl (by kernel_rfl) (by kernel_rfl) (by kernel_rfl) (fun _ _ _ h => h) (Or.inr ⟨by kernel_rfl, rfl⟩) (by assumption) ?_
                  simp only [Act.put, List.setIfInBounds_toArray, List.set_cons_zero, List.set_cons_succ]
                  refine wpAnyH_take (i := 15) (oi := { dst := some 97, op := Op.fieldAddr 26 (Operand.tmp 11) 1, type := 0, pos := "law.go:191", after := #[{ on := 9, ground := Ground.guard }], guard := some (9, false) }) (v := undef) rfl (by kernel_rfl) (by kernel_rfl) (by kernel_rfl) (fun _ _ _ h => h) (Or.inr ⟨by kernel_rfl, rfl⟩) (by assumption) ?_
                  simp only [Act.put, List.setIfInBounds_toArray, List.set_cons_zero, List.set_cons_succ]
                  refine wpAnyH_take (i := 16) (oi := { dst := some 98, op := Op.load 3 (Operand.tmp 97), type := 3, pos := "law.go:191", after := #[{ on := 15, ground := Ground.data }, { on := 9, ground := Ground.guard }], guard := some (9, false) }) (v := undef) rfl (by kernel_rfl) (by kernel_rfl) (by kernel_rfl) (fun _ _ _ h => h) (Or.inr ⟨by kernel_rfl, rfl⟩) (by assumption) ?_
                  simp only [Act.put, List.setIfInBounds_toArray, List.set_cons_zero, List.set_cons_succ]
                  refine wpAnyH_take (i := 17) (oi := { dst := some 99, op := Op.binOp BinOp.gtr 3 (Operand.tmp 96) (Operand.tmp 98) 3, type := 4, pos := "law.go:191", after := #[{ on := 14, ground := Ground.data }, { on := 16, ground := Ground.data }, { on := 9, ground := Ground.guard }], guard := some (9, false) }) (v := undef) rfl (by kernel_rfl) (by kernel_rfl) (by kernel_rfl) (fun _ _ _ h => h) (Or.inr ⟨by kernel_rfl, rfl⟩) (by assumption) ?_
                  simp only [Act.put, List.setIfInBounds_toArray, List.set_cons_zero, List.set_cons_succ]
                  refine wpAnyH_take (i := 18) (oi := { dst := some 100, op := Op.pick (Operand.tmp 91) (Operand.const (Value.bool true)) (Operand.tmp 99), type := 4, pos := "law.go:191", after := #[{ on := 9, ground := Ground.data }, { on := 17, ground := Ground.data }, { on := 6, ground := Ground.guard }], guard := some (6, true) }) (v := undef) rfl (by kernel_rfl) (by kernel_rfl) (by kernel_rfl) (fun _ _ _ h => h) (Or.inr ⟨by kernel_rfl, rfl⟩) (by assumption) ?_
                  simp only [Act.put, List.setIfInBounds_toArray, List.set_cons_zero, List.set_cons_succ]
                  refine wpAnyH_take (i := 19) (oi := { dst := some 101, op := Op.pick (Operand.tmp 88) (Operand.tmp 100) (Operand.const (Value.bool false)), type := 4, pos := "law.go:191", after := #[{ on := 6, ground := Ground.data }, { on := 18, ground := Ground.data }], guard := none }) (v := ?_) rfl (by kernel_rfl) (by kernel_rfl) (by kernel_rfl) (fun _ _ _ h => h) (Or.inl ⟨by kernel_rfl, ?_⟩) (by assumption) ?_
                  rotate_left 1
                  · (intro w hSw; (try dsimp only at hSw); go_simp); try with_reducible rfl
                  simp only [Act.put, List.setIfInBounds_toArray, List.set_cons_zero, List.set_cons_succ]
                  refine wpAnyH_done (by kernel_rfl) ?_ _
                  go_wp2_with fail
                  go_roundg i
                  case measure => omega
                  case rel => exact ⟨s', bst, by omega, by go_num, rfl, HT4.out.below HB5.out, HPd.out, HCp'.out, by omega, HBp.out⟩
end Go.Proofs.YtbacahoihkpkpaaDoor
