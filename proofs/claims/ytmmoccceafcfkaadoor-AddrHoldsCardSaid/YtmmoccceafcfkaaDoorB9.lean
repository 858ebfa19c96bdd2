/- Contracts: strconv.AppendUint, addr.Text. -/
import Derived.Test.YtmmoccceafcfkaaDoorB5
import Derived.Test.YtmmoccceafcfkaaDoorShelf
import Derived.Laws.BytesArg
import Derived.RangeFuncBox
import Derived.Test.YtmmoccceafcfkaaDoorM5
namespace Go.Proofs.YtmmoccceafcfkaaDoor
open Go.RowKit

abbrev Pow (w : World) : Prop := Lib.TabIs Tryd.prog w "internal/strconv.uint64pow10" .u64 Lib.pow10Tab

def AppPost (B n u : Nat) (xs : List Value) (w : World) (e : Ending) (w' : World) : Prop :=
  ∃ v', e = .returned v' ∧ w'.ownsRow B 5 1 v' (n + (Lib.decDigits u).length) (xs ++ Lib.byteCells (Lib.decDigits u)) ∧ Below B w w'

set_option maxHeartbeats 400000 in
theorem AppendUint_any (B n u : Nat) (hu : u < 256) (sv : Value) (xs : List Value) (w : World) (hown : w.ownsRow B 5 1 sv n xs) (hBw : B ≤ w.heap.size) (hlim : n + 20 ≤ 140737488355328) (ht : Pow w) :
    Calls Tryd.prog 70 #[sv, .int .u64 u, .int .i64 10] w (AppPost B n u xs w) := by
  have HC := Lib.hid (Tryd.internal_strconv_AppendUint_10 B n u (by omega) sv xs w hown hBw hlim ht)
  clear hown ht
  go_enter Tryd.func70, Tryd.ntmps70
  go_wp2_with fail
  refine HC.out.mono ?_
  rintro e w' ⟨v', rfl, h1, h2, _⟩
  have H1 := Lib.hid h1
  clear h1
  go_wp2_with fail
  go_ret
  exact ⟨v', rfl, H1.out, h2⟩

theorem tabBelow {w w' : World} (h : Pow w) (hb : Below w.heap.size w w') : Pow w' := Lib.tabBelow_of_tabIs h w' hb

theorem decDigits_len (u : Nat) (h : u < 256) : (Lib.decDigits u).length ≤ 3 := by
  have : ∀ u : Fin 256, (Lib.decDigits u.val).length ≤ 3 := by decide +kernel
  exact this ⟨u, h⟩
theorem textTo_len (a : Int) (a0 : 0 ≤ a) (a1 : a < 4294967296) (k : Nat) : (textTo a k).length ≤ 4 * k := by
  induction k with
  | zero => simp [textTo]
  | succ k ih =>
    have := decDigits_len _ (partN_lt a a0 a1 k)
    unfold textTo
    split <;> simp <;> omega
theorem ownBlock_ge {w : World} {B : Nat} {v : Value} {n : Nat} {xs : List Value} (h : w.ownsRow B 5 1 v n xs) (g : Nat) (hg : v.ownBlock = some g) : B ≤ g := by
  rcases h.2 with ⟨rfl, _⟩ | ⟨g', cap, cur, rfl, hb, _⟩
  · cases hg
  · cases hg; exact hb
theorem text_succ0 (a : Int) : textTo a 1 = textTo a 0 ++ Lib.decDigits (partN a 0) := by simp [textTo]
theorem text_succ (a : Int) (k : Nat) (h : 0 < k) : textTo a (k + 1) = textTo a k ++ [46] ++ Lib.decDigits (partN a k) := by
  unfold textTo
  rw [if_neg (by omega)]
  cases k <;> rfl

theorem PartsN (a : Int) (w : World) (a0 : 0 ≤ a) (a1 : a < 4294967296) :
    Calls Tryd.prog 33 #[.int .u32 a] w fun e w' => e = .returned (.agg #[.int .u8 (partN a 0 : Nat), .int .u8 (partN a 1 : Nat), .int .u8 (partN a 2 : Nat), .int .u8 (partN a 3 : Nat)]) ∧ Below w.heap.size w w' := by
  have e0 : ((partN a 0 : Nat) : Int) = a / 16777216 := by show ((a / 16777216).toNat : Int) = _; omega
  have e1 : ((partN a 1 : Nat) : Int) = a / 65536 % 256 := by show ((a / 65536 % 256).toNat : Int) = _; omega
  have e2 : ((partN a 2 : Nat) : Int) = a / 256 % 256 := by show ((a / 256 % 256).toNat : Int) = _; omega
  have e3 : ((partN a 3 : Nat) : Int) = a % 256 := by show ((a % 256).toNat : Int) = _; omega
  rw [e0, e1, e2, e3]
  exact Parts_any a w a0 a1
theorem own_next0 {w : World} {B : Nat} {v : Value} {a : Int} (h : w.ownsRow B 5 1 v ((textTo a 0).length + (Lib.decDigits (partN a 0)).length) (Lib.byteCells (textTo a 0) ++ Lib.byteCells (Lib.decDigits (partN a 0)))) :
    w.ownsRow B 5 1 v (textTo a 1).length (Lib.byteCells (textTo a 1)) := by
  rw [text_succ0, List.length_append]
  simpa [Lib.byteCells] using h
theorem own_next {w : World} {B : Nat} {v : Value} {a : Int} (k : Nat) (hk : 0 < k) (h : w.ownsRow B 5 1 v ((textTo a k).length + 1 + (Lib.decDigits (partN a k)).length) (Lib.byteCells (textTo a k) ++ [.int .u8 46] ++ Lib.byteCells (Lib.decDigits (partN a k)))) :
    w.ownsRow B 5 1 v (textTo a (k + 1)).length (Lib.byteCells (textTo a (k + 1))) := by
  rw [text_succ a k hk, List.length_append, List.length_append]
  simpa [Lib.byteCells] using h

theorem infoByte : (Tryd.prog.info? 5).map (fun i => (i.zero, i.size, i.bytes)) = some (some (.int .u8 0), 1, 1) := by kernel_rfl

theorem decDigits_pos (u : Nat) : 0 < (Lib.decDigits u).length := by
  rw [Lib.decDigits]
  split <;> simp
theorem nums_self (l : List UInt8) : strOfNums (l.map fun b => (b.toNat : Int)) = ⟨l.toArray⟩ := by
  have e : ∀ b : UInt8, UInt8.ofNat ((b.toNat : Int)).toNat = b := fun b => by simp
  have this : (l.map fun b => (b.toNat : Int)).map (fun n : Int => UInt8.ofNat n.toNat) = l := by
    rw [List.map_map]
    conv => rhs; rw [← List.map_id l]
    exact List.map_congr_left fun b _ => e b
  have hd := strOfNums_data (l.map fun b => (b.toNat : Int))
  rw [this] at hd
  apply ByteArray.ext
  apply Array.ext'
  exact hd
/-- an owned row of bytes, made into a string -/
theorem conv_own {w : World} {B : Nat} {v : Value} {l : List UInt8} (h : w.ownsRow B 5 1 v l.length (Lib.byteCells l)) (hl : 0 < l.length) : ∃ g cap, v = .slice (some ⟨g, 0, none⟩) l.length cap ∧
    (convert 117 9 (.slice (some ⟨g, 0, none⟩) l.length cap)).run Tryd.prog w = .ok (.string ⟨l.toArray⟩) w := by
  rcases h.2 with ⟨_, h0⟩ | ⟨g, cap, cur, rfl, hb, hc, h1, h2, h3, h4⟩
  · omega
  · refine ⟨g, cap, rfl, ?_⟩
    have := run_convert_bytes_arg (P := Tryd.prog) w 117 5 Tryd.underlying117 Tryd.underlying5 g 0 l.length cap (l.map fun b => (b.toNat : Int)) (by simp) (fun i hi => ?_) 9 Tryd.underlying9
    · rw [this, nums_self l]
    · have hci : w.cell? ⟨g, 0 + i, none⟩ = cur[0 + i]? := by simp [World.cell?, hc]
      rw [hci, Nat.zero_add]
      have ht := congrArg (fun x => x[i]?) h4
      simp only [Nat.mul_one] at ht
      rw [List.getElem?_take_of_lt hi] at ht
      rw [← Array.getElem?_toList, ht]
      simp [Lib.byteCells, List.getElem?_eq_getElem hi]

set_option maxRecDepth 100000 in
set_option maxHeartbeats 2000000 in
theorem Text_any (a : Int) (w : World) (a0 : 0 ≤ a) (a1 : a < 4294967296) (ht : Pow w) :
    Calls Tryd.prog 42 #[.int .u32 a] w fun e w' => e = .returned (.string ⟨(textS a).toArray⟩) ∧ Below w.heap.size w w' := by
  obtain ⟨ib, hi, hz0, hz1, hz2⟩ := info_parts infoByte
  have i0 : ∀ (x0 x1 x2 x3 : Value) (w : World), (Instr.index 52 (.agg #[x0, x1, x2, x3]) (.int .i64 0)).run Tryd.prog w = .ok x0 w := fun _ _ _ _ _ => by kernel_rfl
  have i1 : ∀ (x0 x1 x2 x3 : Value) (w : World), (Instr.index 52 (.agg #[x0, x1, x2, x3]) (.int .i64 1)).run Tryd.prog w = .ok x1 w := fun _ _ _ _ _ => by kernel_rfl
  have i2 : ∀ (x0 x1 x2 x3 : Value) (w : World), (Instr.index 52 (.agg #[x0, x1, x2, x3]) (.int .i64 2)).run Tryd.prog w = .ok x2 w := fun _ _ _ _ _ => by kernel_rfl
  have i3 : ∀ (x0 x1 x2 x3 : Value) (w : World), (Instr.index 52 (.agg #[x0, x1, x2, x3]) (.int .i64 3)).run Tryd.prog w = .ok x3 w := fun _ _ _ _ _ => by kernel_rfl
  have HB := Lib.hid (partN_lt a a0 a1)
  have HL := Lib.hid (show ∀ k, k ≤ 4 → (textTo a k).length + 21 ≤ 140737488355328 from fun k hk => by have := textTo_len a a0 a1 k; omega)
  have HT0 := Lib.hid ht
  clear ht
  have b0 := partN_lt a a0 a1 0
  have b1 := partN_lt a a0 a1 1
  have b2 := partN_lt a a0 a1 2
  have b3 := partN_lt a a0 a1 3
  go_enter Tryd.func42, Tryd.ntmps42
  go_wp2_with (go_at_call 33; refine (PartsN _ _ a0 a1).mono ?_; rintro e w1 ⟨rfl, hb⟩)
  go_loopw [3, 8] (fun v i wr => ∃ k : Nat, k ≤ 4 ∧ i = .int .i64 k ∧ wr.ownsRow w.heap.size 5 1 v (textTo a k).length (Lib.byteCells (textTo a k)) ∧ Below w.heap.size w wr) (fun _ i _ => 4 - (intOf i).toNat)
  case atStart => exact ⟨0, by omega, rfl, World.ownsRow_nil _ _ _ _, hb⟩
  case round =>
    obtain ⟨k, hk, rfl, hown, hB⟩ := hrel
    have HO := Lib.hid hown
    clear hown
    have HT := Lib.hid (tabBelow HT0.out hB)
    have hcases : k = 0 ∨ k = 1 ∨ k = 2 ∨ k = 3 ∨ k = 4 := by omega
    rcases hcases with rfl | rfl | rfl | rfl | rfl
    · go_wp2_with fail
      refine (AppendUint_any w.heap.size _ (partN a 0) (HB.out 0) u3 _ _ HO.out hB.size (by have := HL.out 0 (by omega); omega) HT.out).mono ?_
      rintro e w2 ⟨v2, rfl, ho2, hb2⟩
      have HO2 := Lib.hid ho2
      clear ho2
      go_wp2_with fail
      go_roundw
      case rel => first | exact ⟨1, by omega, by go_num, own_next0 HO2.out, hB.trans hb2⟩ | ((repeat apply Exists.intro); exact ⟨⟨1, by omega, by go_num, own_next0 HO2.out, hB.trans hb2⟩, rfl⟩)
      case measure => simp [intOf]
    · have hown := HO.out
      go_wp2_with (at_builtin; refine wpList_append_own _ rfl _ _ 117 rfl w.heap.size 5 ib (.int .u8 0) 1 1 Tryd.underlying117 hi hz0 hz1 hz2 rfl (by decide) u3 _ _ rfl (hown.alloc _) ⟨wr.heap.size, 0, none⟩ 1 1 [.int .u8 46] rfl rfl ?c1 ?c2 ?c3 ?c4 ?c5 ?_)
      case c1 => exact cell_one_new _ _ _
      case c2 => simp [Value.oneCell']
      case c3 => have := HL.out 1 (by omega); unfold maxLen; omega
      case c4 => have := HL.out 1 (by omega); omega
      case c5 => have := hB.size; simp; omega
      intro v1 w1 hown1 hgrow1 _
      have hB1 : Below w.heap.size w w1 := (hB.alloc hB.size _).grown hgrow1 (by have := hB.size; simp; omega) (fun g hg => (ownBlock_ge HO.out g hg))
      have HO1 := Lib.hid hown1
      clear hown hown1 hgrow1
      go_wp2_with fail
      refine (AppendUint_any w.heap.size _ (partN a 1) (HB.out 1) v1 _ _ HO1.out hB1.size (by have := HL.out 1 (by omega); simp at this ⊢; omega) (tabBelow HT0.out hB1)).mono ?_
      rintro e w2 ⟨v2, rfl, ho2, hb2⟩
      have HO2 := Lib.hid ho2
      clear ho2
      go_wp2_with fail
      go_roundw
      case rel => first | exact ⟨2, by omega, by go_num, own_next 1 (by omega) HO2.out, hB1.trans hb2⟩ | ((repeat apply Exists.intro); exact ⟨⟨2, by omega, by go_num, own_next 1 (by omega) HO2.out, hB1.trans hb2⟩, rfl⟩)
      case measure => simp [intOf]
    · have hown := HO.out
      go_wp2_with (at_builtin; refine wpList_append_own _ rfl _ _ 117 rfl w.heap.size 5 ib (.int .u8 0) 1 1 Tryd.underlying117 hi hz0 hz1 hz2 rfl (by decide) u3 _ _ rfl (hown.alloc _) ⟨wr.heap.size, 0, none⟩ 1 1 [.int .u8 46] rfl rfl ?c1 ?c2 ?c3 ?c4 ?c5 ?_)
      case c1 => exact cell_one_new _ _ _
      case c2 => simp [Value.oneCell']
      case c3 => have := HL.out 2 (by omega); unfold maxLen; omega
      case c4 => have := HL.out 2 (by omega); omega
      case c5 => have := hB.size; simp; omega
      intro v1 w1 hown1 hgrow1 _
      have hB1 : Below w.heap.size w w1 := (hB.alloc hB.size _).grown hgrow1 (by have := hB.size; simp; omega) (fun g hg => (ownBlock_ge HO.out g hg))
      have HO1 := Lib.hid hown1
      clear hown hown1 hgrow1
      go_wp2_with fail
      refine (AppendUint_any w.heap.size _ (partN a 2) (HB.out 2) v1 _ _ HO1.out hB1.size (by have := HL.out 2 (by omega); simp at this ⊢; omega) (tabBelow HT0.out hB1)).mono ?_
      rintro e w2 ⟨v2, rfl, ho2, hb2⟩
      have HO2 := Lib.hid ho2
      clear ho2
      go_wp2_with fail
      go_roundw
      case rel => first | exact ⟨3, by omega, by go_num, own_next 2 (by omega) HO2.out, hB1.trans hb2⟩ | ((repeat apply Exists.intro); exact ⟨⟨3, by omega, by go_num, own_next 2 (by omega) HO2.out, hB1.trans hb2⟩, rfl⟩)
      case measure => simp [intOf]
    · have hown := HO.out
      go_wp2_with (at_builtin; refine wpList_append_own _ rfl _ _ 117 rfl w.heap.size 5 ib (.int .u8 0) 1 1 Tryd.underlying117 hi hz0 hz1 hz2 rfl (by decide) u3 _ _ rfl (hown.alloc _) ⟨wr.heap.size, 0, none⟩ 1 1 [.int .u8 46] rfl rfl ?c1 ?c2 ?c3 ?c4 ?c5 ?_)
      case c1 => exact cell_one_new _ _ _
      case c2 => simp [Value.oneCell']
      case c3 => have := HL.out 3 (by omega); unfold maxLen; omega
      case c4 => have := HL.out 3 (by omega); omega
      case c5 => have := hB.size; simp; omega
      intro v1 w1 hown1 hgrow1 _
      have hB1 : Below w.heap.size w w1 := (hB.alloc hB.size _).grown hgrow1 (by have := hB.size; simp; omega) (fun g hg => (ownBlock_ge HO.out g hg))
      have HO1 := Lib.hid hown1
      clear hown hown1 hgrow1
      go_wp2_with fail
      refine (AppendUint_any w.heap.size _ (partN a 3) (HB.out 3) v1 _ _ HO1.out hB1.size (by have := HL.out 3 (by omega); simp at this ⊢; omega) (tabBelow HT0.out hB1)).mono ?_
      rintro e w2 ⟨v2, rfl, ho2, hb2⟩
      have HO2 := Lib.hid ho2
      clear ho2
      go_wp2_with fail
      go_roundw
      case rel => first | exact ⟨4, by omega, by go_num, own_next 3 (by omega) HO2.out, hB1.trans hb2⟩ | ((repeat apply Exists.intro); exact ⟨⟨4, by omega, by go_num, own_next 3 (by omega) HO2.out, hB1.trans hb2⟩, rfl⟩)
      case measure => simp [intOf]
    · obtain ⟨g, cap, hv, hconv⟩ := conv_own HO.out (show 0 < (textTo a 4).length by rw [text_succ a 3 (by omega)]; have := decDigits_pos (partN a 3); simp; omega)
      have HV := Lib.hid hv
      clear hv
      rw [HV.out]
      go_wp2_with fail
      go_ret
      exact ⟨rfl, hB⟩
end Go.Proofs.YtmmoccceafcfkaaDoor
