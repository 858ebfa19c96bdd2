/- Contracts: strings.Cut as it is used, addr.Each, its function value. -/
import Derived.Test.YtmmoccceafcfkaaDoorG1
import Derived.Test.YtmmoccceafcfkaaDoorD2
namespace Go.Proofs.YtmmoccceafcfkaaDoor
open Go.RowKit Go.Shelf

attribute [local go_sem] Oper.semAt_some

/-- the library's variable bytealg.MaxLen holds some number -/
def MLen (w : World) : Prop := ∃ m : Int, w.cell? ⟨2, 0, none⟩ = some (.int .i64 m)
theorem MLen.lt {w : World} (h : MLen w) : 2 < w.heap.size := by
  obtain ⟨m, hm⟩ := h; exact World.block_lt_of_cell? w _ hm
theorem MLen.of_block {w w' : World} (h : MLen w) (e : w'.heap[2]? = w.heap[2]?) : MLen w' := by
  obtain ⟨m, hm⟩ := h; exact ⟨m, (World.cell?_of_block (w := w) (a := ⟨2, 0, none⟩) e).trans hm⟩
theorem MLen.below {w w' : World} (h : MLen w) (hb : Below w.heap.size w w') : MLen w' := h.of_block (hb.block 2 h.lt)

theorem Cut_lit (t u r : ByteArray) (m : Bool) (w : World) (hs : t.size ≤ 1000000) (hm : MLen w) (h : Lib.cut t.data.toList [32] = (u.data.toList, r.data.toList, m)) :
    Calls Tryd.prog 73 #[.string t, .string ⟨#[32]⟩] w fun e w' => e = .returned (.tuple #[.string u, .string r, .bool m]) ∧ Below w.heap.size w w' := by
  obtain ⟨m0, hm0⟩ := hm
  refine (Tryd.strings_Cut t ⟨#[32]⟩ m0 w (by omega) hm0).mono ?_
  rintro e w' ⟨he, n, rfl⟩
  have h2 : Lib.cut t.data.toList ((⟨#[32]⟩ : ByteArray).data.toList) = (u.data.toList, r.data.toList, m) := h
  rw [h2] at he
  exact ⟨he, below_drewN (Below.refl _ _) _⟩

theorem Each_any (s : ByteArray) (w : World) :
    Calls Tryd.prog 45 #[.string s] w fun e w' => e = .returned (.func (.func 72) #[] #[.pointer (some ⟨w.heap.size, 0, none⟩)]) ∧ w' = w.alloc (.cells #[.string s] 9) := by
  go_enter Tryd.func45, Tryd.ntmps45
  go_wp2
  go_ret
  exact ⟨rfl, rfl⟩

def encE (x : Nat × Int) : Array Value := #[.int .i64 x.1, .int .u32 x.2]
/-- a round keeps the text's box and the library's variable -/
def KpE (b : Nat) (W W' : World) : Prop := W'.heap[b]? = W.heap[b]? ∧ W'.heap[2]? = W.heap[2]?
theorem kpE_t {b : Nat} {A B C : World} (h : KpE b A B) (k : KpE b B C) : KpE b A C := ⟨k.1.trans h.1, k.2.trans h.2⟩
theorem kpE_b {b : Nat} {w : World} (hb : b < w.heap.size) (h2 : 2 < w.heap.size) (W : World) (l : Nat) (o o' : Obj) (hl : w.heap.size ≤ l) (_ : W.heap[l]? = some o) (_ : o.isCells = false) (_ : o.isWalk = false) : KpE b W (W.putObj l o') := by
  unfold KpE World.putObj
  simp only [Array.getElem?_setIfInBounds]
  rw [if_neg (by omega), if_neg (by omega)]
  exact ⟨rfl, rfl⟩
theorem kpE_below {b : Nat} {W W' : World} (hb : b < W.heap.size) (h2 : 2 < W.heap.size) (h : Below W.heap.size W W') : KpE b W W' := ⟨h.block b hb, h.block 2 h2⟩

theorem cut_bytes (l : List UInt8) : ∃ (u r : ByteArray) (m : Bool), Lib.cut l [32] = (u.data.toList, r.data.toList, m) ∧ u.size = (Lib.cut l [32]).1.length :=
  ⟨⟨(Lib.cut l [32]).1.toArray⟩, ⟨(Lib.cut l [32]).2.1.toArray⟩, (Lib.cut l [32]).2.2, by simp, by simp [ByteArray.size]⟩
theorem cut_le (l : List UInt8) : (Lib.cut l [32]).1.length ≤ l.length := by
  rcases cut_len l with ⟨_, h, _⟩ | ⟨_, h⟩
  · omega
  · rw [h]; exact Nat.le_refl _

set_option maxRecDepth 100000 in
set_option maxHeartbeats 2000000 in
theorem Each1_in (n l Bs : Nat) (s : ByteArray) (hs : s.size ≤ 1000000) (J Jx : List (Nat × Int) → World → Prop) (W : World) (hJ : AbidesFrom W.heap.size J)
    (hY : ∀ pre x W1, J pre W1 → pre.length < s.size + 1 → YieldAt Fence.wide (n - 1) Tryd.prog l (encE x) W1 fun e W' =>
      (e = .returned (.bool true) ∧ J (pre ++ [x]) W' ∧ KpE Bs W1 W') ∨ (e = .returned (.bool false) ∧ Jx (pre ++ [x]) W'))
    (hB : W.heap[Bs]? = some (.cells #[.string s] 9)) (hm : MLen W) (h0 : J [] W) :
    CallsIn Fence.wide n Tryd.prog 72 #[.func (.yield l) #[] #[], .pointer (some ⟨Bs, 0, none⟩)] W fun e W' => (∃ v, e = .returned v) ∧
      ((∃ xs, xs = eachS s.data.toList ∧ J xs W') ∨ (∃ pre, pre <+: eachS s.data.toList ∧ Jx pre W')) := by
  have hlen := eachS_len s.data.toList
  rw [show s.data.toList.length = s.size by simp] at hlen
  refine callsIn_of_wp Tryd.func72 rfl trivial ?_ rfl
  simp only [Tryd.ntmps72, List.size_toArray, List.length_cons, List.length_nil, Nat.reduceAdd, Nat.reduceSub, Array.replicate_succ, Array.replicate_zero, List.push_toArray, List.append_toArray, List.nil_append, List.cons_append]
  have hJn : ∀ pre A B, J pre A → Below A.heap.size A B → J pre B := fun pre A B h hb => hJ pre A B none h (below_grownBy hb) (by simp)
  have HJ := Lib.hid hJn
  clear hJn hJ
  have HY := Lib.hid hY
  clear hY
  refine wpIn_wide.2 ?_
  go_wp2_with fail
  go_step3
  go_wp2_with fail
  refine wp_label ?_
  go_wp2_with fail
  refine (wpIn_wide (n := n)).1 ?_
  gi_loopw [3] (fun i wr => ∃ (f k : Nat) (pre : List (Nat × Int)), k ≤ s.size ∧ s.size < f + k ∧ i = .int .i64 k ∧ pre ++ eachL s.data.toList f k = eachS s.data.toList ∧ J pre wr ∧ wr.heap[Bs]? = some (.cells #[.string s] 9) ∧ MLen wr) (fun i _ => s.size + 1 - (intOf i).toNat)
  case atStart => exact ⟨s.size + 1, 0, [], by omega, by omega, rfl, by simp [eachS], h0, hB, hm⟩
  case round =>
    obtain ⟨f, k, pre, hk, hf, rfl, hpre, hJk, hBk, hmk⟩ := hrel
    obtain ⟨f, rfl⟩ : ∃ g, f = g + 1 := ⟨f - 1, by omega⟩
    have hkl : k ≤ s.data.toList.length := by simpa using hk
    have hBl : Bs < wr.heap.size := (Array.getElem?_eq_some_iff.1 hBk).1
    have hml := hmk.lt
    have e0 : wr.cell? ⟨Bs, 0, none⟩ = some (.string s) := by simp [World.cell?, hBk]
    obtain ⟨u, r, m, hcut, hul⟩ := cut_bytes (s.data.toList.drop k)
    have hul2 : u.size ≤ 1000000 := by
      have := cut_le (s.data.toList.drop k)
      simp at this
      omega
    have HP := Lib.hid hpre
    have HC := Lib.hid (show Lib.cut (s.extract k s.size).data.toList [32] = (u.data.toList, r.data.toList, m) by rw [Lib.extract_to_end]; exact hcut)
    have HC2 := Lib.hid hcut
    have HU := Lib.hid hul
    have HJk := Lib.hid hJk
    have HBk := Lib.hid hBk
    have Hmk := Lib.hid hmk
    clear hpre hcut hul hJk hBk hmk h0 hB hm
    have i0 : (0 : Int) ≤ (k : Int) := by omega
    have i1 : (k : Int) ≤ (s.size : Int) := by omega
    obtain ⟨a, nn, er, hp⟩ : ∃ a nn er, parseS u.data.toList = (a, nn, er) := ⟨_, _, _, rfl⟩
    have HPa := Lib.hid hp
    clear hp
    have hsx : (s.extract k s.size).size ≤ 1000000 := by simp; omega
    gi_wp2_with fail
    refine ⟨trivial, wide_d, (callsIn_wide.2 (Cut_lit _ u r m _ hsx Hmk.out HC.out)).mono ?_⟩
    rintro e w1 ⟨rfl, hb1⟩
    gi_wp2_with fail
    refine ⟨trivial, wide_d, (callsIn_wide.2 (Parse_lit u _ a nn er (by omega) HPa.out)).mono ?_⟩
    rintro e w2 ⟨rfl, hb2⟩
    have hb : Below wr.heap.size wr w2 := bthen hb1 hb2
    have HB := Lib.hid hb
    clear hb hb1 hb2 e0
    by_cases her : er = 0
    · subst her
      have t1 : ((0 : Int) != 0) = false := rfl
      have hp0 : parseS (Lib.cut (s.data.toList.drop k) [32]).1 = (a, nn, 0) := by rw [HC2.out]; exact HPa.out
      have hex := each_ok _ k hkl a nn hp0
      have HP0 := Lib.hid hp0
      have hcm : (Lib.cut (s.data.toList.drop k) [32]).2.2 = m := by rw [HC2.out]
      have Hcm := Lib.hid hcm
      have hkL : m = true → k + u.size < s.size := by
        intro h
        have hu := HU.out
        rcases hex.2.2.2 with ⟨_, h2, _⟩ | ⟨h1, _⟩
        · simp at h2; omega
        · rw [hcm, h] at h1; cases h1
      have hpl : pre.length < s.size + 1 := by
        have h1 := congrArg List.length HP.out
        have h2 : 0 < (eachL s.data.toList (f + 1) k).length := by
          cases hm : m with
          | true => rw [eachL_more _ f k a nn hp0 (by rw [hcm, hm])]; simp
          | false => rw [eachL_last _ f k a nn hp0 (by rw [hcm, hm])]; simp
        rw [List.length_append] at h1
        omega
      clear hp0 hex hcm
      obtain ⟨fn, tmps, assign, body, hy, hR⟩ := (HY.out pre (k, a) w2 (HJ.out _ _ _ HJk.out HB.out) hpl).mono (R' := fun e W' => ∃ b : Bool, e = .returned (.bool b) ∧ (b = true → J (pre ++ [(k, a)]) W' ∧ KpE Bs w2 W') ∧ (b = false → Jx (pre ++ [(k, a)]) W')) (by
        rintro e W' (⟨he, h1, h2⟩ | ⟨he, h1⟩)
        · exact ⟨true, he, fun _ => ⟨h1, h2⟩, by simp⟩
        · exact ⟨false, he, by simp, fun _ => h1⟩)
      simp only [encE] at hy
      gi_wp2_with fail
      refine ⟨wide_d, hR.mono ?_⟩
      rintro e W3 ⟨b, rfl, hb1, hb2⟩
      clear hR hy
      cases b with
      | false =>
        have hJ3 := hb2 rfl
        clear hb1 hb2
        have hpx : pre ++ [(k, a)] <+: eachS s.data.toList := by
          rw [← HP.out]
          cases hm : m with
          | true => rw [eachL_more _ f k a nn HP0.out (by rw [Hcm.out, hm])]; exact ⟨_, by simp; rfl⟩
          | false => rw [eachL_last _ f k a nn HP0.out (by rw [Hcm.out, hm])]; exact List.prefix_rfl
        have HPX := Lib.hid hpx
        clear hpx
        gi_wp2_with fail
        rw [Exit.noGoto_normal]
        go_end0
        exact ⟨⟨_, rfl⟩, .inr ⟨_, HPX.out, hJ3⟩⟩
      | true =>
        obtain ⟨hJ3, hK3⟩ := hb1 rfl
        clear hb1 hb2
        have HJ3 := Lib.hid hJ3
        have HK3 := Lib.hid hK3
        clear hJ3 hK3
        cases m with
        | true =>
          have hkm := hkL rfl
          clear hkL
          gi_wp2_with fail
          refine ⟨⟨f, k + u.size + 1, pre ++ [(k, a)], by omega, by omega, by go_num, ?_, HJ3.out, ?_, ?_⟩, by simp [intOf]; omega⟩
          · have h1 := HP.out
            rw [eachL_more _ f k a nn HP0.out Hcm.out, ← HU.out] at h1
            simpa using h1
          · exact HK3.out.1.trans ((HB.out.block Bs hBl).trans HBk.out)
          · exact (Hmk.out.below HB.out).of_block HK3.out.2
        | false =>
          clear hkL
          have HE := Lib.hid (show eachS s.data.toList = pre ++ [(k, a)] by
            have h1 := HP.out
            rw [eachL_last _ f k a nn HP0.out Hcm.out] at h1
            exact h1.symm)
          gi_wp2_with fail
          rw [Exit.noGoto_normal]
          go_end0
          exact ⟨⟨_, rfl⟩, .inl ⟨_, HE.out.symm, HJ3.out⟩⟩
    · have t1 : (er != 0) = true := by simp [her]
      have HE := Lib.hid (show eachS s.data.toList = pre by
        have h1 := HP.out
        rw [eachL_bad _ _ k (by rw [HC2.out]; simp only; rw [HPa.out]; exact her), List.append_nil] at h1
        exact h1.symm)
      gi_wp2_with fail
      refine ⟨fun _ h => (by cases h), ?_⟩
      gi_wp2_with fail
      rw [Exit.noGoto_normal]
      go_end0
      exact ⟨⟨_, rfl⟩, .inl ⟨_, HE.out.symm, HJ.out _ _ _ HJk.out HB.out⟩⟩

theorem Each_stops (n Bs : Nat) (s : ByteArray) (hs : s.size ≤ 1000000) (w : World) (hB : w.heap[Bs]? = some (.cells #[.string s] 9)) (hm : MLen w) :
    SeqStopsK Fence.wide n Tryd.prog 72 #[.pointer (some ⟨Bs, 0, none⟩)] encE (KpE Bs) (fun xs => xs = eachS s.data.toList) (fun pre => pre <+: eachS s.data.toList) (s.size + 1) w :=
  fun l J Jx W hW hJ _ hY h0 => Each1_in n l Bs s hs J Jx W hJ hY ((hW.block Bs (Array.getElem?_eq_some_iff.1 hB).1).trans hB) (hm.below hW) h0
end Go.Proofs.YtmmoccceafcfkaaDoor
