/- Contract: addr.Join. -/
import Derived.Test.YtmmoccceafcfkaaDoorH1
namespace Go.Proofs.YtmmoccceafcfkaaDoor
open Go.RowKit

def tByte (a : Int) : ByteArray := ⟨(textS a).toArray⟩
def cellsT (l : List Int) : List Value := l.map fun a => .string (tByte a)
theorem infoStr : (Tryd.prog.info? 9).map (fun i => (i.zero, i.size, i.bytes)) = some (some (.string ⟨#[]⟩), 1, 16) := by kernel_rfl

/-- a slice of addresses that came in -/
structure ArgU (w : World) (base : Option Addr) (b off : Nat) (l : List Int) : Prop where
  cells : ∀ i z, l[i]? = some z → base = some ⟨b, off, none⟩ ∧ w.cell? ⟨b, off + i, none⟩ = some (.int .u32 z)
  bd : ∀ z ∈ l, 0 ≤ z ∧ z < 4294967296
theorem ArgU.below {w w' : World} {base : Option Addr} {b off : Nat} {l : List Int} (h : ArgU w base b off l) (hb : Below w.heap.size w w') : ArgU w' base b off l :=
  ⟨fun i z hz => by
    obtain ⟨h1, h2⟩ := h.cells i z hz
    exact ⟨h1, (hb.cell (p := ⟨b, off + i, none⟩) (World.block_lt_of_cell? w _ h2)).trans h2⟩, h.bd⟩

theorem joinS_len (l : List Int) (h : ∀ z ∈ l, 0 ≤ z ∧ z < 4294967296) : (joinS l).length ≤ 17 * l.length := by
  induction l with
  | nil => simp [joinS]
  | cons a r ih =>
    have ha := textTo_len a (h a List.mem_cons_self).1 (h a List.mem_cons_self).2 4
    have hr := ih (fun z hz => h z (List.mem_cons_of_mem _ hz))
    have ha' : (textS a).length ≤ 16 := ha
    cases r with
    | nil => simp only [joinS, List.length_cons, List.length_nil]; omega
    | cons b r => simp only [joinS, List.length_append, List.length_cons] at hr ⊢; omega

set_option maxRecDepth 100000 in
set_option maxHeartbeats 4000000 in
theorem Join_any (l : List Int) (base : Option Addr) (b off cap : Nat) (w : World) (hl : l.length ≤ 1000) (hA : ArgU w base b off l) (ht : Pow w) :
    Calls Tryd.prog 50 #[.slice base l.length cap] w fun e w' => e = .returned (.string ⟨(joinS l).toArray⟩) ∧ Below w.heap.size w w' := by
  obtain ⟨ib, hi, hz0, hz1, hz2⟩ := info_parts infoStr
  have HA := Lib.hid hA
  have HT := Lib.hid ht
  clear hA ht
  go_enter Tryd.func50, Tryd.ntmps50
  go_wp2_with (at_make; refine wpList_make_own _ rfl _ _ 127 rfl w.heap.size 9 ib (.string ⟨#[]⟩) 1 Tryd.underlying127 hi hz0 hz1 .i64 .i64 _ l.length rfl rfl (by omega) (by rw [hz2]; omega) (by unfold maxLen; omega) (Nat.le_refl _) ?_; intro w0 hown0 hgrow0)
  have B0 : Below w.heap.size w w0 := (Below.refl _ _).grown hgrow0 (Nat.le_refl _) (fun g e => by cases e)
  go_loopw [3, 11] (fun v i wr => ∃ k : Nat, k ≤ l.length ∧ i = .int .i64 k ∧ wr.ownsRow w.heap.size 9 1 v (l.take k).length (cellsT (l.take k)) ∧ Below w.heap.size w wr) (fun _ i _ => l.length - (intOf i).toNat)
  case atStart => exact ⟨0, by omega, rfl, by simpa [cellsT] using hown0, B0⟩
  case round =>
    obtain ⟨k, hk, rfl, hown, hB⟩ := hrel
    clear hown0 hgrow0 B0
    have HO := Lib.hid hown
    clear hown
    by_cases hlt : k < l.length
    · obtain ⟨z, hz⟩ : ∃ z, l[k]? = some z := ⟨_, List.getElem?_eq_getElem hlt⟩
      obtain ⟨rfl, hcz⟩ := HA.out.cells k z hz
      have hbd := HA.out.bd z (List.mem_of_getElem? hz)
      have hc := (hB.cell (p := ⟨b, off + k, none⟩) (World.block_lt_of_cell? w _ hcz)).trans hcz
      have HS := Lib.hid (show l.take (k + 1) = l.take k ++ [z] by
        rw [List.take_succ_eq_append_getElem hlt]
        have := List.getElem?_eq_getElem hlt
        rw [hz] at this
        rw [Option.some.inj this])
      clear hz hcz
      have i0 : (0 : Int) ≤ (k : Int) := by omega
      have i1 : (k : Int) < (l.length : Int) := by omega
      have hkl : (l.take k).length = k := by simp; omega
      have HKL := Lib.hid hkl
      clear hkl
      go_wp2_with fail
      refine (Text_lit z _ (tByte z) hbd.1 hbd.2 (tabBelow HT.out hB) rfl).mono ?_
      rintro e w1 ⟨rfl, hb1⟩
      have hB1 : Below w.heap.size w w1 := bthen hB hb1
      have HO1 := Lib.hid (show w1.ownsRow w.heap.size 9 1 u3 (l.take k).length (cellsT (l.take k)) from World.ownsRow.kept HO.out (below_grownBy hb1) (Classical.em _))
      clear hb1 hc
      have hown := HO1.out
      go_wp2_with (at_builtin; refine wpList_append_own _ rfl _ _ 127 rfl w.heap.size 9 ib (.string ⟨#[]⟩) 1 16 Tryd.underlying127 hi hz0 hz1 hz2 rfl (by decide) u3 _ _ rfl (hown.alloc _) ⟨w1.heap.size, 0, none⟩ 1 1 [.string (tByte z)] rfl rfl ?c1 ?c2 ?c3 ?c4 ?c5 ?_)
      case c1 => exact cell_one_new _ _ _
      case c2 => simp [Value.oneCell']
      case c3 => have := HKL.out; unfold maxLen; omega
      case c4 => have := HKL.out; omega
      case c5 => have := hB1.size; simp; omega
      intro v1 w2 hown1 hgrow1 _
      have hB2 : Below w.heap.size w w2 := (hB1.alloc hB1.size _).grown hgrow1 (by have := hB1.size; simp; omega) (fun g hg => (HO1.out.lt g hg).1)
      have HO2 := Lib.hid (show w2.ownsRow w.heap.size 9 1 v1 (l.take (k + 1)).length (cellsT (l.take (k + 1))) by
        have e : (l.take (k + 1)).length = k + 1 := by simp; omega
        rw [e, HS.out]
        simpa [cellsT] using hown1)
      clear hown hown1 hgrow1
      go_wp2_with fail
      go_roundw
      case rel => first | exact ⟨k + 1, by omega, by go_num, HO2.out, hB2⟩ | ((repeat apply Exists.intro); exact ⟨⟨k + 1, by omega, by go_num, HO2.out, hB2⟩, rfl⟩)
      case measure => simp [intOf]; omega
    · have hkl : l.take k = l := List.take_of_length_le (by omega)
      have hO := HO.out
      rw [hkl] at hO
      have hlk : l.length = k := by omega
      clear HO hkl
      rcases hO.2 with ⟨rfl, h0⟩ | ⟨g, cap', cur, rfl, hb, hc, h1, h2, h3, h4⟩
      · have hl0 : l = [] := List.eq_nil_of_length_eq_zero h0
        subst hl0
        clear hO h0 hlk
        go_wp2_with fail
        refine (Tryd.strings_Join_none none 0 ⟨#[32]⟩ _).mono ?_
        rintro e w1 ⟨rfl, rfl⟩
        go_wp2_with fail
        go_ret
        exact ⟨rfl, hB⟩
      · have hcells : ∀ (j : Nat) x, (l.map tByte)[j]? = some x → wr.cell? ⟨g, 0 + j, none⟩ = some (.string x) := by
          intro j x hx
          have hci : wr.cell? ⟨g, 0 + j, none⟩ = cur[j]? := by simp [World.cell?, hc]
          rw [hci, ← Array.getElem?_toList]
          have h5 : (cellsT l)[j]? = some (.string x) := by
            simp only [cellsT, List.getElem?_map] at hx ⊢
            cases hlj : l[j]? with
            | none => rw [hlj] at hx; simp at hx
            | some y => rw [hlj] at hx; simp at hx; simp [hx]
          rw [← h4, List.getElem?_take] at h5
          split at h5
          · exact h5
          · cases h5
        have hj := Tryd.strings_Join g 0 cap' (l.map tByte) ⟨#[32]⟩ wr hcells (Array.getElem?_eq_some_iff.1 hc).1 (by simp; omega) (by simp; omega) (by
          have e : (l.map tByte).map (·.data.toList) = l.map textS := by simp [tByte]
          rw [e]
          have := joinS_len l HA.out.bd
          rw [← join_eq] at this
          have : (Lib.join (l.map textS) ((⟨#[32]⟩ : ByteArray).data.toList)).length ≤ 17 * l.length := this
          omega)
        have e : (l.map tByte).map (·.data.toList) = l.map textS := by simp [tByte]
        rw [e, List.length_map] at hj
        have e2 : Lib.join (l.map textS) ((⟨#[32]⟩ : ByteArray).data.toList) = joinS l := join_eq l
        rw [e2] at hj
        have HJ := Lib.hid hj
        clear hj e e2 hcells hO hb hc h1 h2 h3 h4
        have Hlk := Lib.hid hlk
        clear hlk
        go_wp2_with fail
        refine HJ.out.mono ?_
        rintro e w1 ⟨rfl, hb1⟩
        go_wp2_with fail
        go_ret
        exact ⟨rfl, bthen hB hb1⟩
end Go.Proofs.YtmmoccceafcfkaaDoor
