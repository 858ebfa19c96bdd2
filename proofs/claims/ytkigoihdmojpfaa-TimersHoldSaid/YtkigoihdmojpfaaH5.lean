/- TimersHold: the walk. (Printed by gen_h5.py.) -/
import Derived.Test.YtkigoihdmojpfaaN2
import Derived.RegionTactic
import Derived.RangeFuncBox
import Derived.StillTailTactics
import Derived.Deep.RegionWith
import Derived.Deep.CutBlock
namespace Go.Proofs.Ytkigoihdmojpfaa
open Go.RowKit Go.Shelf
open Go.Sort (grow)

attribute [local go_sem] Oper.semAt_some

def l1Rel (w : World) (c9 qa qb m : Nat) (kd a n d : Nat → Int) (t : Nat) (v10 : Value) (wr : World) : Prop :=
  ∃ (i : Nat) (Fa Fb : List Nat), t = m - i ∧ i ≤ m ∧ v10 = .int .i64 i ∧ Q2 w wr c9 0 qa qb Fa Fb (fwd ((ents m kd a n d).take i)) []
def l2Rel (w : World) (c9 qa qb m : Nat) (kd a n d : Nat → Int) (A : List TR) (t : Nat) (v11 : Value) (wr : World) : Prop :=
  ∃ (i : Nat) (Fa Fb : List Nat), t = i ∧ i ≤ m ∧ v11 = .int .i64 ((i : Int) - 1) ∧ Q2 w wr c9 0 qa qb Fa Fb A (bwd ((ents m kd a n d).drop i))

/-- of those met so far: due; not yet -/
def fstP (A : List TR) (now : Int) (pre : List (Fin A.length)) : List TR := (pre.map (recAt A)).filter (dueNow now)
def latP (A : List TR) (now : Int) (pre : List (Fin A.length)) : Nat := ((pre.map (recAt A)).filter (fun r => !dueNow now r)).length
theorem fstP_yes {A : List TR} {now : Int} {pre : List (Fin A.length)} {x : Fin A.length} (h : dueNow now (recAt A x) = true) : fstP A now (pre ++ [x]) = fstP A now pre ++ [recAt A x] := by simp [fstP, h]
theorem fstP_no {A : List TR} {now : Int} {pre : List (Fin A.length)} {x : Fin A.length} (h : dueNow now (recAt A x) = false) : fstP A now (pre ++ [x]) = fstP A now pre := by simp [fstP, h]
theorem latP_yes {A : List TR} {now : Int} {pre : List (Fin A.length)} {x : Fin A.length} (h : dueNow now (recAt A x) = true) : latP A now (pre ++ [x]) = latP A now pre := by simp [latP, h]
theorem latP_no {A : List TR} {now : Int} {pre : List (Fin A.length)} {x : Fin A.length} (h : dueNow now (recAt A x) = false) : latP A now (pre ++ [x]) = latP A now pre + 1 := by simp [latP, h]
def hI (A : List TR) (now : Int) (N c9 : Nat) (w4 : World) (pre : List (Fin A.length)) (W : World) : Prop :=
  ((∃ v, Boxed W N 35 v ∧ W.ownsRow N 45 4 v (fstP A now pre).length (tCs (fstP A now pre)) ∧ True) ∧ OneB W c9 (.int .i64 (latP A now pre)) 3) ∧ KB [c9] w4 W
theorem kb_own {β : Type} (S : List Nat) (w0 : World) (n : Nat) (hn : w0.heap.size ≤ n) : OwnFrom n (fun (_ : β) W => KB S w0 W) := fun _ X Y row hs hg hr =>
  ⟨hg.os.trans hs.os, hg.tape.trans hs.tape, hg.output.trans hs.output, Nat.le_trans hs.size hg.size, fun i hi hne => (hg.block i (Nat.lt_of_lt_of_le hi hs.size) (fun e => by have := (hr i e.symm).1; omega)).trans (hs.block i hi hne)⟩
theorem hI_own (A : List TR) (now : Int) (N c9 : Nat) (w4 : World) (n : Nat) (hn : w4.heap.size ≤ n) : OwnFrom n (hI A now N c9 w4) :=
  OwnFrom.and (OwnFrom.and (Own.from (holdsRow_own N N 35 45 4 (fun pre => (fstP A now pre).length) (fun pre => tCs (fstP A now pre)) (fun _ _ => True)) _) (Own.from (oneB_own c9 3 (fun (pre : List (Fin A.length)) => .int .i64 (latP A now pre))) _)) (kb_own _ _ _ hn)
theorem kb_thenN {S : List Nat} {w4 W W' : World} {N : Nat} (h : KB S w4 W) (hb : Below N W W') (hn : w4.heap.size ≤ N) : KB S w4 W' :=
  ⟨hb.os.trans h.os, hb.tape.trans h.tape, hb.output.trans h.output, Nat.le_trans h.size hb.size, fun i hi hne => (hb.block i (by omega)).trans (h.block i hi hne)⟩
theorem kb_set (W : World) (c : Nat) (u : Value) : KB [c] W (W.setCell ⟨c, 0, none⟩ u) := ⟨rfl, rfl, rfl, by simp, fun i _ hn => Below.heap_setCell _ _ _ i (by simpa using hn)⟩
theorem own_set {W : World} {N e size n c : Nat} {v : Value} {xs : List Value} (h : W.ownsRow N e size v n xs) (hc : c < N) (u : Value) : (W.setCell ⟨c, 0, none⟩ u).ownsRow N e size v n xs :=
  h.kept (grownBy_setCell' W c u) (by
    cases hv : v.ownBlock with
    | none => exact .inl rfl
    | some g => exact .inr (fun e => by have := (h.lt g hv).1; cases e; omega))

theorem all_parts (A : List TR) (now : Int) : fstP A now (upF A.length A.length) = A.filter (dueNow now) ∧ latP A now (upF A.length A.length) = (A.filter (fun r => !dueNow now r)).length := by
  have h : (upF A.length A.length).map (recAt A) = A := by
    refine List.ext_getElem (by simp [upF]) fun i h1 h2 => ?_
    simp [upF, recAt]
  unfold fstP latP
  rw [h]
  exact ⟨rfl, rfl⟩
/-- between two pops -/
structure l3P (Wd wx : World) (qb : Nat) (Fb Fb' : List Nat) (A : List TR) (now : Int) (i : Nat) (v : Value) : Prop where
  le : i ≤ A.length
  qu : Qu wx qb Fb' (A.drop i)
  nf : ∀ c ∈ Fb', c ∈ Fb ∨ Wd.heap.size ≤ c
  kb : KB Fb Wd wx
  row : wx.ownsRow Wd.heap.size 45 4 v i (tCs (A.take i))
  ap : ∀ g, v.ownBlock = some g → g ∉ Fb'
  all : ∀ j, j < i → ∀ x, A[j]? = some x → dueNow now x = true
theorem l3P.start {Wd : World} {qb : Nat} {Fb : List Nat} {A : List TR} {now : Int} (h : Qu Wd qb Fb A) : l3P Wd Wd qb Fb Fb A now 0 (.slice none 0 0) :=
  ⟨Nat.zero_le _, h, fun c hc => .inl hc, KB.of_below (Below.refl _ _), World.ownsRow_nil _ _ _ _, fun g e => by simp [Value.ownBlock] at e, fun j hj => by omega⟩
theorem own_kb {W W' : World} {base n size : Nat} {e : TypeId} {v : Value} {xs : List Value} {F : List Nat} (h : W.ownsRow base e size v n xs) (hk : KB F W W') (hn : ∀ g, v.ownBlock = some g → g ∉ F) : W'.ownsRow base e size v n xs := by
  refine ⟨h.1, ?_⟩
  rcases h.2 with h0 | ⟨g, cap, cur, rfl, hb, hg, rest⟩
  · exact .inl h0
  · exact .inr ⟨g, cap, cur, rfl, hb, (hk.block g (Array.getElem?_eq_some_iff.1 hg).1 (hn g (by simp [Value.ownBlock]))).trans hg, rest⟩
theorem l3P.next {Wd wr w5 w7 : World} {qb : Nat} {Fb Fb' : List Nat} {A : List TR} {now : Int} {i g1 c1 : Nat} {v : Value} {x : TR} {ob1 ob2 : Obj} (h : l3P Wd wr qb Fb Fb' A now i v) (hx : A[i]? = some x) (hd : dueNow now x = true) (hN : QNew wr w5 qb Fb' (A.drop (i + 1)))
    (hown : w7.ownsRow Wd.heap.size 45 4 (.slice (some ⟨g1, 0, none⟩) (i + 1) c1) (i + 1) (tCs (A.take (i + 1)))) (hgrow : ((w5.alloc ob1).alloc ob2).grownBy w7 v.ownBlock) (hat : v.ownBlock = some g1 ∨ g1 = ((w5.alloc ob1).alloc ob2).heap.size) :
    ∃ F2, l3P Wd w7 qb Fb F2 A now (i + 1) (.slice (some ⟨g1, 0, none⟩) (i + 1) c1) := by
  obtain ⟨F2, k1, k2, k3⟩ := hN
  have hil := (List.getElem?_eq_some_iff.1 hx).1
  have hz := h.kb.size
  have hz5 := k3.size
  have hb2 := bthen (below1 w5 ob1) (below1 (w5.alloc ob1) ob2)
  have hz6 : ((w5.alloc ob1).alloc ob2).heap.size = w5.heap.size + 2 := by simp
  have hrl := h.row.lt
  have hv : ∀ g, v.ownBlock = some g → g ∉ F2 := fun g hg hm => by
    rcases k2 g hm with h5 | h5
    · exact h.ap g hg h5
    · have := (hrl g hg).2; omega
  have hq := k1.below hb2
  refine ⟨F2, by omega, hq.kept fun c hc => hgrow.block c (hq.foot_lt c hc) (fun e => hv c e.symm hc), fun c hc => ?_, ?_, hown, fun g hg hm => ?_, fun j hj y hy => ?_⟩
  · rcases k2 c hc with h5 | h5
    · exact h.nf c h5
    · exact .inr (by omega)
  · refine ⟨hgrow.os.trans (hb2.os.trans (k3.os.trans h.kb.os)), hgrow.tape.trans (hb2.tape.trans (k3.tape.trans h.kb.tape)), hgrow.output.trans (hb2.output.trans (k3.output.trans h.kb.output)), by have := hgrow.size; omega, fun k hk hn => ?_⟩
    have e1 : w7.heap[k]? = ((w5.alloc ob1).alloc ob2).heap[k]? := hgrow.block k (by omega) (fun e => by have := (hrl k e.symm).1; omega)
    have e2 := hb2.block k (by omega)
    have e3 := k3.block k (by omega) (fun hm => by
      rcases h.nf k hm with h5 | h5
      · exact hn h5
      · omega)
    exact e1.trans (e2.trans (e3.trans (h.kb.block k hk hn)))
  · simp [Value.ownBlock] at hg
    subst hg
    rcases hat with h5 | h5
    · exact hv _ h5 hm
    · have := k1.foot_lt _ hm; omega
  · by_cases e : j = i
    · subst e; rw [hx] at hy; cases hy; exact hd
    · exact h.all j (by omega) y hy
theorem l3P.stay {Wd wr w5 : World} {qb : Nat} {Fb Fb' : List Nat} {A : List TR} {now : Int} {i : Nat} {v : Value} (h : l3P Wd wr qb Fb Fb' A now i v) (hN : QNew wr w5 qb Fb' (A.drop i)) (ob1 : Obj) : ∃ F2, l3P Wd (w5.alloc ob1) qb Fb F2 A now i v := by
  obtain ⟨F2, k1, k2, k3⟩ := hN
  have hz := h.kb.size
  have hz5 := k3.size
  have hb2 := below1 w5 ob1
  have hrl := h.row.lt
  refine ⟨F2, h.le, k1.below hb2, fun c hc => ?_, ?_, own_below (own_kb h.row k3 h.ap) hb2, fun g hg hm => ?_, h.all⟩
  · rcases k2 c hc with h5 | h5
    · exact h.nf c h5
    · exact .inr (by omega)
  · refine ⟨hb2.os.trans (k3.os.trans h.kb.os), hb2.tape.trans (k3.tape.trans h.kb.tape), hb2.output.trans (k3.output.trans h.kb.output), by have := hb2.size; omega, fun k hk hn => ?_⟩
    have e2 := hb2.block k (by omega)
    have e3 := k3.block k (by omega) (fun hm => by
      rcases h.nf k hm with h5 | h5
      · exact hn h5
      · omega)
    exact e2.trans (e3.trans (h.kb.block k hk hn))
  · rcases k2 g hm with h5 | h5
    · exact h.ap g hg h5
    · have := (hrl g hg).2; omega
def l3Rel (Wd : World) (qb : Nat) (Fb : List Nat) (A : List TR) (now : Int) (t : Nat) (v16 v19 : Value) (wr : World) : Prop :=
  ∃ (i : Nat) (Fb' : List Nat), t = 31 - i ∧ i ≤ 30 ∧ v19 = .int .i64 i ∧ l3P Wd wr qb Fb Fb' A now i v16
theorem OneB.kb {W W' : World} {b : Nat} {v : Value} {t : TypeId} {S : List Nat} (h : OneB W b v t) (hk : KB S W W') (hn : b ∉ S) : OneB W' b v t := (hk.block b h.lt hn).trans h

set_option maxRecDepth 1000000 in
set_option maxHeartbeats 16000000 in
theorem TimersHold_any (w : World) (base1 base2 : Option Addr) (b1 o1 k1 c1 b2 o2 k2 c2 : Nat) (kd a n d : Nat → Int) (h1 : TimsIn w base1 b1 o1 k1 kd a n) (h2 : L64In w base2 b2 o2 k2 d) (hk1 : k1 ≤ 30) (hk2 : k2 ≤ 30) (now : Int) :
    Calls Try.prog 5 #[.slice base1 k1 c1, .slice base2 k2 c2, .int .i64 now] w fun e w' => e = .returned (.bool true) ∧ Below w.heap.size w w' := by
  have hnf : ∀ (b : Nat) (W : World), (binOp .eql 41 (.func (.func 34) #[] #[.pointer (some ⟨b, 0, none⟩)]) .nilFunc).run Try.prog W = .ok (.bool false) W := fun _ _ => by kernel_rfl
  have t1 : decide ((30 : Int) < (k1 : Int)) = false := by simp; omega
  have t2 : decide ((30 : Int) < (k2 : Int)) = false := by simp; omega
  have HB1 := Lib.hid (below1 w (.cells #[.int .i64 now] 2))
  have HP0 := Lib.hid (OneB.new w (.int .i64 now) 2)
  have HI1 := Lib.hid (h1.below HB1.out)
  have HI2 := Lib.hid (h2.below HB1.out)
  clear h1 h2
  obtain ⟨m, hm⟩ : ∃ m, m = min k1 k2 := ⟨_, rfl⟩
  have hm1 : m ≤ k1 := by omega
  have hm2 : m ≤ k2 := by omega
  have HM := Lib.hid hm
  have HMin := Lib.hid (show min (k1 : Int) (k2 : Int) = (m : Int) by omega)
  clear hm
  refine (callsIn_wide (n := 3)).1 ?_
  refine callsIn_of_wp_marks Try.func5 rfl trivial ?_ rfl
  simp only [Try.ntmps5, List.size_toArray, List.length_cons, List.length_nil, Nat.reduceAdd, Nat.reduceSub, Array.replicate_succ, Array.replicate_zero, List.push_toArray, List.append_toArray, List.nil_append, List.cons_append]
  refine wpIn_wide.2 ?_
  go_upto_region 1 with fail
  generalize (w.alloc (.cells #[.int .i64 now] 2)) = X at *
  go_upto_region 4 with (first
    | (go_at_call 9; (with_reducible refine (New_o X).mono ?_); rintro e w1 ⟨qa, rfl, hq⟩; have HQa := Lib.hid hq; clear hq)
    | (go_at_call 9; (with_reducible refine (New_o w1).mono ?_); rintro e w2 ⟨qb, rfl, hq⟩; have HQb := Lib.hid hq; clear hq)
    | fail)
  obtain ⟨Fa0, Fb0, hQ0⟩ := Q2.start HQa.out HQb.out
  have HQ0 := Lib.hid hQ0
  clear hQ0 t1 t2 HQa HQb
  go_upto_block 0 with fail
  obtain ⟨c9, hc9⟩ : ∃ c9, c9 = w2.heap.size := ⟨_, rfl⟩
  rw [← hc9] at HQ0 ⊢
  clear hc9
  generalize (w2.alloc (.cells #[.int .i64 0] 3)) = X0 at *
  go_cut [10] from 11 to 52 (fun v10 wx => ∃ (Fa Fb : List Nat), Q2 X wx c9 0 qa qb Fa Fb (fwd (ents m kd a n d)) [])
  case first => as_aux_lemma =>
    go_wp2_with fail
    go_loopg [10] m (l1Rel X c9 qa qb m kd a n d)
    case atStart => exact ⟨0, Fa0, Fb0, rfl, by omega, rfl, HQ0.out⟩
    case round =>
      clear HQ0
      obtain ⟨i, Fa, Fb, hn, hik, rfl, hq⟩ := hrel
      have Hn := Lib.hid hn
      have HQ := Lib.hid hq
      have hmn := HMin.out
      clear hn hq
      by_cases hlt : i < m
      · have hi1 := HI1.out.below HQ.out.bl
        have hi2 := HI2.out.below HQ.out.bl
        obtain rfl := hi1.is (by omega)
        obtain rfl := hi2.is (by omega)
        obtain ⟨a0, a1, a2⟩ := hi1.c i (by omega)
        have a3 := hi2.c i (by omega)
        have HKb := Lib.hid (hi1.bd i)
        have hbl1 := HI1.out.lt (by omega)
        have hbl2 := HI2.out.lt (by omega)
        have HFn := Lib.hid (fwd_next (kd := kd) (a := a) (n := n) (d := d) hlt)
        have HLn := Lib.hid (show (fwd ((ents m kd a n d).take i)).length ≤ 30 by
          have h5 := fwd_len ((ents m kd a n d).take i)
          rw [List.length_take, ents_len] at h5
          omega)
        have HA := Lib.hid (ArmV_q qa Fa (fwd ((ents m kd a n d).take i)) ⟨kd i, a i, n i, d i⟩ wr.drew (HQ.out.a.below (Below.refl _ _).drew) HKb.out (by have := HLn.out; omega))
        unfold keyV at HA
        generalize kd i = k' at *
        generalize a i = a' at *
        generalize n i = n' at *
        generalize d i = d' at *
        have i0 : (0 : Int) ≤ (i : Int) := by omega
        have i1 : (i : Int) < (k1 : Int) := by omega
        have i2 : (i : Int) < (k2 : Int) := by omega
        have t3 : decide ((i : Int) < min (k1 : Int) (k2 : Int)) = true := by simp; omega
        have hws := HQ.out.bl.size
        have f1 : b1 < wr.heap.size := by omega
        have f2 : b2 < wr.heap.size := by omega
        have g1 : b1 ∉ Fa := fun hm => by have := HQ.out.ga b1 hm; omega
        have g2 : b2 ∉ Fa := fun hm => by have := HQ.out.ga b2 hm; omega
        have HG := Lib.hid (And.intro g1 g2)
        clear hi1 hi2 g1 g2 hmn
        go_upto_region 8 with fail
        go_region_held3 (fun w' => w'.cell? ⟨b1, o1 + i * 3, none⟩ = some (.int .i64 k') ∧ w'.cell? ⟨b1, o1 + i * 3 + 1, none⟩ = some (.int .u32 a') ∧ w'.cell? ⟨b1, o1 + i * 3 + 2, none⟩ = some (.int .i64 n') ∧ w'.cell? ⟨b2, o2 + i, none⟩ = some (.int .i64 d'))
          (first | exact ⟨a0, a1, a2, a3⟩ | go_keep)
          (((with_reducible refine HA.out.mono ?_); rintro e w3 ⟨⟨was, had, er, rfl⟩, hN⟩; have hk3 := (by obtain ⟨_, _, _, h5⟩ := hN; exact h5 : KB Fa wr.drew w3); have a0 := hk3.cell a0 HG.out.1; have a1 := hk3.cell a1 HG.out.1; have a2 := hk3.cell a2 HG.out.1; have a3 := hk3.cell a3 HG.out.2; have HN := Lib.hid hN; clear hN hk3))
        all_goals
          clear a0 a1 a2 a3
          go_wp2_with fail
          obtain ⟨Fa', hQ'⟩ := (HQ.out.below (Below.refl _ _).drew).actA HN.out
          have HQ' := Lib.hid hQ'
          clear hQ'
          go_roundg (m - (i + 1))
          case measure => have := Hn.out; omega
          case rel => exact ⟨i + 1, Fa', Fb, rfl, by omega, by go_num, by rw [HFn.out]; exact HQ'.out⟩
      · obtain rfl : i = m := by omega
        have t3 : decide ((i : Int) < min (k1 : Int) (k2 : Int)) = false := by simp; omega
        have hE : (ents i kd a n d).take i = ents i kd a n d := List.take_of_length_le (by rw [ents_len]; exact Nat.le_refl _)
        rw [hE] at HQ
        clear hmn hE
        go_wp2_with fail
        go_meet
        exact ⟨Fa, Fb, HQ.out⟩
  case rest =>
    obtain ⟨Fa, Fb, hq⟩ := hcut
    have HQ := Lib.hid hq
    clear hq HQ0
    have HA := Lib.hid (fwd_good (ents m kd a n d))
    have HAl := Lib.hid (show (fwd (ents m kd a n d)).length ≤ 30 by
      have h5 := fwd_len (ents m kd a n d)
      rw [ents_len] at h5
      omega)
    have HFB := Lib.hid (fwd_bwd (ents m kd a n d))
    generalize fwd (ents m kd a n d) = A at *
    go_upto_block 2 with fail
    go_cut [11] from 12 to 83 (fun v11 wx => ∃ (Fa Fb : List Nat), Q2 X wx c9 0 qa qb Fa Fb A A)
    case first => as_aux_lemma =>
      go_wp2_with fail
      go_loopg [11] m (l2Rel X c9 qa qb m kd a n d A)
      case atStart =>
        have hE : (ents m kd a n d).drop m = [] := List.drop_eq_nil_of_le (by rw [ents_len]; exact Nat.le_refl _)
        have HQ := HQ.out
        refine ⟨m, Fa, Fb, rfl, Nat.le_refl _, by rw [HMin.out], by rw [hE]; exact HQ⟩
      case round =>
        clear HQ
        obtain ⟨i, Fa, Fb, hn, hik, rfl, hq⟩ := hrel
        have Hn := Lib.hid hn
        have HQ := Lib.hid hq
        clear hn hq
        by_cases hlt : 0 < i
        · obtain ⟨j, rfl⟩ : ∃ j, i = j + 1 := ⟨i - 1, by omega⟩
          rw [show (((j + 1 : Nat) : Int) - 1) = (j : Int) by omega]
          have hi1 := HI1.out.below HQ.out.bl
          have hi2 := HI2.out.below HQ.out.bl
          obtain rfl := hi1.is (by omega)
          obtain rfl := hi2.is (by omega)
          obtain ⟨a0, a1, a2⟩ := hi1.c j (by omega)
          have HKb := Lib.hid (hi1.bd j)
          have hbl1 := HI1.out.lt (by omega)
          have hbl2 := HI2.out.lt (by omega)
          have HBn := Lib.hid (bwd_next (kd := kd) (a := a) (n := n) (d := d) (show j < m by omega))
          have HLn := Lib.hid (show (bwd ((ents m kd a n d).drop (j + 1))).length ≤ 30 by
            have h5 := bwd_len ((ents m kd a n d).drop (j + 1))
            rw [List.length_drop, ents_len] at h5
            omega)
          have HI1b := Lib.hid (show ∀ W, Below X.heap.size X W → TimIs W b1 (o1 + j * 3) (kd j) (a j) (n j) ∧ W.cell? ⟨b2, o2 + j, none⟩ = some (.int .i64 (d j)) from fun W hb => ⟨(HI1.out.below hb).c j (by omega), (HI2.out.below hb).c j (by omega)⟩)
          generalize bwd ((ents m kd a n d).drop (j + 1)) = Bq at *
          have HD := Lib.hid (Due_any qb Fb Bq (kd j) (a j) (n j) wr HQ.out.b HKb.out (by have := HLn.out; omega))
          have HV := Lib.hid (fun W (h : Qu W qb Fb Bq) => ArmV_q qb Fb Bq ⟨kd j, a j, n j, d j⟩ W h HKb.out (by have := HLn.out; omega))
          unfold bwdStep at HBn
          unfold keyV at HD HV
          have i0 : (0 : Int) ≤ (j : Int) := by omega
          have i1 : (j : Int) < (k1 : Int) := by omega
          have i2 : (j : Int) < (k2 : Int) := by omega
          have hws := HQ.out.bl.size
          have f1 : b1 < wr.heap.size := by omega
          have f2 : b2 < wr.heap.size := by omega
          have HG := Lib.hid (show b1 ∉ Fb ∧ b2 ∉ Fb from ⟨fun hm => by have := HQ.out.gb b1 hm; omega, fun hm => by have := HQ.out.gb b2 hm; omega⟩)
          have HHad := Lib.hid (show ∀ b : Bool, (dueS Bq (kd j) (a j) (n j)).2 = b → (dueS Bq (kd j) (a j) (n j)) = ((dueS Bq (kd j) (a j) (n j)).1, b) from fun b e => by rw [← e])
          generalize kd j = k' at *
          generalize a j = a' at *
          generalize n j = n' at *
          generalize d j = d' at *
          clear hi1 hi2
          cases hh : (dueS Bq k' a' n').2 with
          | true =>
            rw [HHad.out true hh] at HD
            have HBn := Lib.hid (by have h5 := HBn.out; simp only at h5; rw [if_pos hh] at h5; exact h5)
            simp only at HD
            clear hh HHad
            generalize (dueS Bq k' a' n').1 = was at *
            go_wp2_with (go_at_call 13; (with_reducible refine HD.out.mono ?_); rintro e w3 ⟨rfl, hb⟩; have HB3 := Lib.hid hb; clear hb a0 a1 a2)
            go_roundg j
            case measure => have := Hn.out; omega
            case rel => exact ⟨j, Fa, Fb, rfl, by omega, rfl, by rw [HBn.out]; exact HQ.out.below HB3.out⟩
          | false =>
            rw [HHad.out false hh] at HD
            have HBn := Lib.hid (by have h5 := HBn.out; simp only at h5; rw [if_neg (by rw [hh]; simp)] at h5; exact h5)
            simp only at HD
            clear hh HHad
            generalize (dueS Bq k' a' n').1 = was at *
            go_upto_region 14 with (go_at_call 13; (with_reducible refine HD.out.mono ?_); rintro e w3 ⟨rfl, hb⟩; have HB3 := Lib.hid hb; clear hb a0 a1 a2)
            have HQ3 := Lib.hid (HQ.out.below HB3.out)
            have hcs := HI1b.out w3 HQ3.out.bl
            obtain ⟨⟨a0, a1, a2⟩, a3⟩ := hcs
            have HA3 := Lib.hid (HV.out w3.drew (HQ3.out.b.below (Below.refl _ _).drew))
            have f1 : b1 < w3.heap.size := by have := HB3.out.size; omega
            have f2 : b2 < w3.heap.size := by have := HB3.out.size; omega
            go_region_held3 (fun w' => w'.cell? ⟨b1, o1 + j * 3, none⟩ = some (.int .i64 k') ∧ w'.cell? ⟨b1, o1 + j * 3 + 1, none⟩ = some (.int .u32 a') ∧ w'.cell? ⟨b1, o1 + j * 3 + 2, none⟩ = some (.int .i64 n') ∧ w'.cell? ⟨b2, o2 + j, none⟩ = some (.int .i64 d'))
              (first | exact ⟨a0, a1, a2, a3⟩ | go_keep)
              (((with_reducible refine HA3.out.mono ?_); rintro e w4 ⟨⟨was2, had2, er2, rfl⟩, hN⟩; have hk3 := (by obtain ⟨_, _, _, h5⟩ := hN; exact h5 : KB Fb w3.drew w4); have a0 := hk3.cell a0 HG.out.1; have a1 := hk3.cell a1 HG.out.1; have a2 := hk3.cell a2 HG.out.1; have a3 := hk3.cell a3 HG.out.2; have HN := Lib.hid hN; clear hN hk3))
            all_goals
              clear a0 a1 a2 a3
              go_wp2_with fail
              obtain ⟨Fb', hQ', _⟩ := (HQ3.out.below (Below.refl _ _).drew).actB HN.out
              have HQ' := Lib.hid hQ'
              clear hQ'
              go_roundg j
              case measure => have := Hn.out; omega
              case rel => exact ⟨j, Fa, Fb', rfl, by omega, rfl, by rw [HBn.out]; exact HQ'.out⟩
        · obtain rfl : i = 0 := by omega
          rw [show (((0 : Nat) : Int) - 1) = (-1 : Int) by rfl]
          rw [List.drop_zero, ← HFB.out] at HQ
          go_wp2_with fail
          go_meet
          exact ⟨Fa, Fb, HQ.out⟩
    case rest =>
      obtain ⟨Fa, Fb, hq⟩ := hcut
      have HQ := Lib.hid hq
      clear hq HFB HI1 HI2 HMin
      have HSm := Lib.hid (Same_q qa qb Fa Fb A A wc HQ.out.a HQ.out.b (by have := HAl.out; omega) (by have := HAl.out; omega))
      rw [show decide (A = A) = true by simp] at HSm
      go_upto_region 17 with (go_at_call 20; (with_reducible refine HSm.out.mono ?_); rintro e w3 ⟨rfl, hb⟩; have HB3 := Lib.hid hb; clear hb)
      have HAll := Lib.hid (All_any qa Fa A w3 (HQ.out.a.below HB3.out) (by have := HAl.out; omega))
      go_upto_region 20 with (go_at_call 11; (with_reducible refine HAll.out.mono ?_); rintro e w4 ⟨v', rfl, hA⟩; obtain ⟨Bs, b3, g3, c3, rfl, hB3, hS3, hBl3, hg3, hb⟩ := hA; have HBs := Lib.hid hB3; have HS3 := Lib.hid hS3; have HBl3 := Lib.hid hBl3; have HG3 := Lib.hid hg3; have HQ4 := Lib.hid ((HQ.out.below HB3.out).below hb); clear hB3 hS3 hBl3 hg3 hb)
      have hc93 : c9 < w3.heap.size := by have := HQ.out.n9.lt; have := HB3.out.size; omega
      clear HSm HAll HQ
      have hN1 := (Array.getElem?_eq_some_iff.1 HBs.out).1
      have hN2 := HS3.out.lt
      have hN3 := HQ4.out.n9.lt
      have hX4 := HQ4.out.bl.size
      have hXw := HP0.out.lt
      have h3b := HB3.out.size
      have hg9 := HQ4.out.g9
      have hB3l := HBl3.out
      go_wp2_with fail
      obtain ⟨N, hN⟩ : ∃ N, N = w4.heap.size := ⟨_, rfl⟩
      have HW : ∀ W0, W0 = w4.alloc (.cells #[.slice none 0 0] 35) → (W0.heap[Bs]? = some (.cells #[.slice b3 A.length c3] 72 (0, 0)) ∧ SL W0 b3 g3 0 A ∧ Boxed W0 N 35 (.slice none 0 0)) ∧ (OneB W0 c9 (.int .i64 (0 : Nat)) 3 ∧ KB [c9] w4 W0 ∧ W0.heap.size = N + 1) := fun W0 e => by
        subst e
        have hb := below1 w4 (.cells #[.slice none 0 0] 35)
        exact ⟨⟨(hb.block _ hN1).trans HBs.out, HS3.out.below hb, by rw [hN]; exact Boxed.new w4 35 _⟩, HQ4.out.n9.below hb, KB.of_below hb, by simp [hN]⟩
      rw [← hN] at hN1 hN2 hN3 hX4 ⊢
      have HN := Lib.hid hN
      generalize w4.alloc (.cells #[.slice none 0 0] 35) = W0 at *
      obtain ⟨⟨r1, r2, r3⟩, r4, r5, r6⟩ := HW W0 rfl
      obtain ⟨i0, hii, hz0, hz1, hz2⟩ := info_parts info45
      clear HW hN HBs HS3
      refine (wpIn_wide (n := 3)).1 ?_
      refine wpIn_rangeFunc_ownH rfl (by omega) (gf := 34) (lb := #[.pointer (some ⟨Bs, 0, none⟩)]) rfl trivial (enters_of Try.func34 (by kernel_rfl) rfl)
        (All_stops (3 - 1) Bs g3 c3 b3 A (by have := HAl.out; omega) W0 r1 r2) kpA_t (kpA_b (by omega) r2.lt) (Below.refl _ _) (fun _ => rfl)
        (hI A now N c9 w4) (fun _ _ _ => False) (hI_own A now N c9 w4 _ (by have := HN.out; omega)) (fun _ _ _ _ _ hs _ _ => hs)
        ⟨⟨⟨_, r3, World.ownsRow_nil _ _ _ _, trivial⟩, r4⟩, r5⟩
        (fun x a' W => ∃ Bx, (W0.heap.size ≤ Bx ∧ a' = { tmps := #[Value.slice base1 k1 c1, Value.slice base2 k2 c2, Value.int IntKind.i64 now, undef, undef, Value.pointer (some { block := w.heap.size, off := 0 }), Value.bool false, Value.pointer (some { block := qa, off := 0 }), Value.pointer (some { block := qb, off := 0 }), Value.pointer (some { block := c9, off := 0 }), u10, u11, u12, u13, Value.func (Fn.func 34) #[] #[Value.pointer (some { block := Bs, off := 0 })], Value.pointer (some { block := N, off := 0 }), Value.slice none 0 0, Value.pointer (some { block := Bx, off := 0 }), .int .i64 (recAt A x).due, u19, u20, u21, u22, u23, u24, u25, u26, u27, u28, u29, u30, u31, u32, u33, u34, u35, u36, u37, u38, u39, u40, u41, u42, u43, u44, u45, u46, u47, u48, u49, u50, u51, u52, u53, u54, u55, u56, u57, u58, u59, u60, u61, u62, u63, u64, u65, u66, u67, u68, u69, u70, u71, u72, u73, u74, u75, u76, u77, u78, u79, u80, u81, u82, u83, Value.pointer (some { block := qa, off := 0 }), Value.pointer (some { block := qb, off := 0 }), Value.bool true, Value.bool false, Value.pointer (some { block := qa, off := 0 }), Value.func (Fn.func 34) #[] #[Value.pointer (some { block := Bs, off := 0 })], Value.func (Fn.func 34) #[] #[Value.pointer (some { block := Bs, off := 0 })], Value.bool false, Value.func (Fn.func 34) #[] #[Value.pointer (some { block := Bs, off := 0 })], .agg #[.int .i64 (recAt A x).kind, .int .u32 (recAt A x).addr, .int .i64 (recAt A x).len], .int .i64 (recAt A x).due, undef, undef, undef, undef, undef, undef, undef, undef, undef, undef, undef, undef, undef, undef, undef, undef, undef, undef, undef, undef, undef, undef, undef, undef, undef, undef, undef, undef, undef, undef, undef, undef, undef, undef, undef, undef, undef, undef, undef, undef, undef, undef], defers := [] }) ∧ TBox W Bx (recAt A x).kind (recAt A x).addr (recAt A x).len)
        (fun x a' s X Y row hs hg hr => by obtain ⟨Bx, h1, h2⟩ := hs; exact ⟨Bx, h1, Own.from (tboxB_own (β := Unit) Bx (recAt A x)) _ s X Y row h2 hg hr⟩) ?assign ?body ?done ?stop
      case assign =>
        rintro l pre x W K ⟨⟨⟨v, hv, hrow, _⟩, h9⟩, hk⟩ hK
        have hl := hv.lt
        have hks := hk.size
        unfold encA
        gi_wp2_with fail
        exact hK _ _ ((KeepsOthers.alloc _ _).from _) ⟨Below.heap_alloc _ _ Bs (by omega), Below.heap_alloc _ _ g3 (by omega)⟩ ⟨⟨⟨v, hv.alloc _, hrow.alloc _, trivial⟩, h9.alloc _⟩, hk.trans (KB.of_below (below1 _ _))⟩ ⟨W.heap.size, ⟨by omega, rfl⟩, heap_alloc_new W _⟩
      case body =>
        rintro l pre x a' W hl' ⟨r, hr⟩ ⟨⟨⟨v, hv, hrow, _⟩, h9⟩, hk⟩ ⟨Bx, ⟨hBx, rfl⟩, hTB⟩ hlt
        have hb3 : w3.heap.size ≤ g3 := by
          rcases HG3.out with e | e
          · obtain ⟨y, hy⟩ : ∃ y, A[0]? = some y := ⟨_, List.getElem?_eq_getElem (by omega)⟩
            obtain ⟨e2, _⟩ := r2.row 0 y hy
            rw [e] at e2
            cases e2
          · exact e
        have c0 := hv.cell
        have q0 := hTB.c0
        have q1 := hTB.c1
        have q2 := hTB.c2
        have n0 := h9.c
        have nf := h9.f
        have hnw := (hk.block w.heap.size (by have := HN.out; omega) (by simp; omega)).trans ((HQ4.out.bl.block _ hXw).trans HP0.out)
        have m0 : W.cell? ⟨w.heap.size, 0, none⟩ = some (.int .i64 now) := by simp [World.cell?, hnw]
        have hle : N ≤ N := Nat.le_refl _
        have hws := hk.size
        have hNW : N ≤ W.heap.size := by have := HN.out; omega
        have hpl : (fstP A now pre).length ≤ pre.length := by
          have := List.length_filter_le (dueNow now) (pre.map (recAt A))
          simpa [fstP] using this
        have hAl30 := HAl.out
        have HN9 := Lib.hid h9
        have HKk := Lib.hid hk
        have HRow := Lib.hid hrow
        have HV := Lib.hid hv
        clear hTB hnw h9 hk hrow
        cases hd : dueNow now (recAt A x) with
        | true =>
          have HF := Lib.hid (fstP_yes (pre := pre) hd)
          have HLt := Lib.hid (latP_yes (pre := pre) hd)
          have td : decide ((recAt A x).due ≤ now) = true := hd
          clear hd
          gi_wp2_with (first
            | (gi_at_builtin; refine wpListIn_append_own _ rfl _ _ 35 rfl N 45 i0 (.agg #[.int .i64 0, .int .u32 0, .int .i64 0, .int .i64 0]) 4 32 Try.underlying35 hii hz0 hz1 hz2 rfl (by decide) _ _ _ rfl (HRow.out.alloc _) ⟨W.heap.size, 0, none⟩ 1 1 (tC (recAt A x)) rfl rfl (cells_four_new _ _ _ _ _ _) (tC_one _) (by unfold maxLen; omega) (by omega) (by simp; omega) ?_; intro v' w5 hown' hgrow _; obtain ⟨g', cap', rfl⟩ := Go.ownsRow_succ hown'; obtain ⟨hv1, hv2, hr2, hk2, hb2⟩ := HV.out.appended (by decide) HRow.out hNW hle hown' hgrow; have hc1 := hv1.cell; have hf1 := hv1.frozen)
            | fail)
          refine ⟨hk2.from _, ⟨hb2.block Bs (by omega), hb2.block g3 (by omega)⟩, ⟨⟨⟨_, hv2, ?_, trivial⟩, ?_⟩, ?_⟩⟩
          · rw [HF.out, tCs_app, List.length_append]
            have e5 : tCs [recAt A x] = tC (recAt A x) := by simp [tCs]
            rw [e5]
            exact hr2
          · rw [HLt.out]
            exact (hb2.block c9 (by omega)).trans HN9.out
          · exact kb_thenN HKk.out hb2 (by have := HN.out; omega)
        | false =>
          have HF := Lib.hid (fstP_no (pre := pre) hd)
          have HLt := Lib.hid (latP_no (pre := pre) hd)
          have td : decide ((recAt A x).due ≤ now) = false := hd
          clear hd
          have e9 : ((latP A now pre + 1 : Nat) : Int) = (latP A now pre : Int) + 1 := by omega
          have HE9 := Lib.hid e9
          clear e9
          have hlp : latP A now pre ≤ pre.length := by
            have := List.length_filter_le (fun r => !dueNow now r) (pre.map (recAt A))
            simpa [latP] using this
          have hlp2 : (latP A now pre : Int) ≤ 1000 := by omega
          gi_wp2_with fail
          refine ⟨(KeepsOthers.setCell W _ _).from _, ⟨Below.heap_setCell _ _ _ Bs (show Bs ≠ c9 by omega), Below.heap_setCell _ _ _ g3 (show g3 ≠ c9 by omega)⟩, ⟨⟨⟨v, HV.out.other (by omega) _, by rw [HF.out]; exact own_set HRow.out (by omega) _, trivial⟩, ?_⟩, ?_⟩⟩
          · rw [HLt.out, HE9.out]
            exact HN9.out.set _
          · exact HKk.out.trans (kb_set _ _ _)
      case done =>
        rintro D xs W hD rfl ⟨⟨⟨v, hv, hrow, _⟩, h9⟩, hk⟩ hK
        obtain ⟨hf1, hf2⟩ := all_parts A now
        rw [hf1] at hrow
        rw [hf2] at h9
        have hN4 := HN.out
        have hks := hk.size
        have hfb := fun c hc => HQ4.out.b.foot_lt c hc
        have hqb : Qu W qb Fb A := HQ4.out.b.kept fun c hc => hk.block c (hfb c hc) (fun hm => by simp at hm; subst hm; exact HQ4.out.nb hc)
        have hbw : Below X.heap.size X W := hk.after (fun c hc => by simp at hc; subst hc; exact hg9) HQ4.out.bl
        have hDN : N < D := by omega
        have hDl := (Array.getElem?_eq_some_iff.1 hK).1
        have hnw : OneB W w.heap.size (.int .i64 now) 2 := (hbw.block _ hXw).trans HP0.out
        have hrl := hrow.lt
        have HQb := Lib.hid hqb
        have HFb := Lib.hid hfb
        have HBw := Lib.hid hbw
        have HNw := Lib.hid hnw
        have HRow := Lib.hid hrow
        have HV := Lib.hid hv
        have HN9 := Lib.hid h9
        have HKd := Lib.hid hK
        have HOrd := Lib.hid HA.out.1
        have HGb := Lib.hid HQ4.out.gb
        have H9b := Lib.hid HQ4.out.nb
        have hAl30 := HAl.out
        clear hqb hfb hbw hnw hrow hv h9 hK hk HQ4 HA HAl r1 r2 r3 r4 r5 hf1 hf2 hrl hN4
        go_upto_block 6 with fail
        go_cut [16] from 17 to 124 (fun v16 wx => ∃ (i : Nat) (Fb' : List Nat), l3P W wx qb Fb Fb' A now i v16 ∧ A.takeWhile (dueNow now) = A.take i)
        case first => as_aux_lemma =>
          go_wp2_with fail
          go_loopg [16, 19] 31 (l3Rel W qb Fb A now)
          case atStart => exact ⟨0, Fb, rfl, by omega, rfl, l3P.start HQb.out⟩
          case round =>
            obtain ⟨i, Fb', hn, hi, rfl, hp⟩ := hrel
            have Hn := Lib.hid hn
            have HP := Lib.hid hp
            have hil := hp.le
            clear hn hp
            have t5 : decide ((i : Int) < 40) = true := by simp; omega
            have c5 := (HNw.out.kb HP.out.kb (fun hm => by have := HGb.out _ hm; omega)).c
            have HPo := Lib.hid (Pop_q qb Fb' (A.drop i) now wr HP.out.qu (by simp; omega))
            by_cases hit : ∃ x, A[i]? = some x ∧ x.due ≤ now
            · obtain ⟨x, hx, hxd⟩ := hit
              have hxl := (List.getElem?_eq_some_iff.1 hx).1
              have hdr : A.drop i = x :: A.drop (i + 1) := by
                rw [List.drop_eq_getElem_cons hxl]
                rw [List.getElem?_eq_getElem hxl] at hx
                rw [Option.some.inj hx]
              rw [hdr] at HPo
              have hnd : ¬ now < x.due := by omega
              simp only [popV, popS, if_neg hnd] at HPo
              unfold keyV at HPo
              have HX := Lib.hid hx
              have HXd := Lib.hid hxd
              clear hdr hx hxd hnd
              go_upto_region 32 with (go_at_call 21; (with_reducible refine HPo.out.mono ?_); rintro e w5 ⟨rfl, hq⟩; have HQn := Lib.hid hq; clear hq c5)
              have HDn := Lib.hid (show dueNow now x = true by unfold dueNow; simpa using HXd.out)
              have HTk := Lib.hid (show tCs (A.take i) ++ tC x = tCs (A.take (i + 1)) by
                rw [List.take_succ_eq_append_getElem hxl]
                have h5 := HX.out
                rw [List.getElem?_eq_getElem hxl] at h5
                rw [Option.some.inj h5, tCs_app]
                simp [tCs])
              have hk5 := (by obtain ⟨_, _, _, h5⟩ := HQn.out; exact h5 : KB Fb' wr w5)
              have hr5 := own_kb HP.out.row hk5 HP.out.ap
              have hTb := TBox.new w5 x.kind x.addr x.len
              have b0 := hTb.c0
              have b1 := hTb.c1
              have b2 := hTb.c2
              have HR6 := Lib.hid (own_below (own_below hr5 (below1 w5 (.cells #[.int .i64 x.kind, .int .u32 x.addr, .int .i64 x.len] 29))) (below1 _ (.cells #[.int .i64 x.kind, .int .u32 x.addr, .int .i64 x.len, .int .i64 x.due] 45)))
              have hsn := src_new (w5.alloc (.cells #[.int .i64 x.kind, .int .u32 x.addr, .int .i64 x.len] 29)) #[.int .i64 x.kind, .int .u32 x.addr, .int .i64 x.len, .int .i64 x.due] 45 4 rfl
              rw [World.size_alloc] at hsn
              have HSn := Lib.hid hsn
              have hz5 : W.heap.size ≤ w5.heap.size := by have := HP.out.kb.size; have := hk5.size; omega
              clear hr5 hTb hk5 hsn
              go_wp2_with (at_builtin; refine wpList_append_src _ rfl _ _ _ rfl W.heap.size 45 i0 _ 4 32 Try.underlying35 hii hz0 hz1 hz2 rfl (by omega) u16 i (tCs (A.take i)) rfl HR6.out (some ⟨w5.heap.size + 1, 0, none⟩) 1 1 (tC x) (Or.inr (by omega)) rfl HSn.out (tC_one _) (i + 1) (by omega) (tCs (A.take (i + 1))) HTk.out (by unfold maxLen; omega) (by omega) (by simp; omega) ?_; intro g1 c1 w7 hown1 hgrow1 hg1 hat1; have HO1 := Lib.hid hown1; have HGr := Lib.hid hgrow1; have HAt := Lib.hid hat1; clear hown1 hgrow1 hg1 hat1)
              obtain ⟨F2, hP2⟩ := HP.out.next HX.out HDn.out HQn.out HO1.out HGr.out HAt.out
              have HP2 := Lib.hid hP2
              clear hP2
              go_roundg (31 - (i + 1))
              case measure => have := Hn.out; omega
              case rel => exact ⟨i + 1, F2, rfl, by have := HP2.out.le; omega, by go_num, HP2.out⟩
            · have HTw := Lib.hid (show A.takeWhile (dueNow now) = A.take i from by
                have h5 : (A.takeWhile (dueNow now)).length = i := tw_of hil HP.out.all (fun x hx => by
                  unfold dueNow
                  simp only [decide_eq_false_iff_not]
                  exact fun h6 => hit ⟨x, hx, h6⟩)
                have h6 := List.prefix_iff_eq_take.1 (List.takeWhile_prefix (dueNow now) (l := A))
                rw [h5] at h6
                exact h6)
              have hv : popV (A.drop i) now = zeroT := by
                cases hdr : A.drop i with
                | nil => rfl
                | cons x T =>
                  have hx : A[i]? = some x := by
                    have h5 : (A.drop i)[0]? = some x := by rw [hdr]; rfl
                    rw [List.getElem?_drop] at h5
                    simpa using h5
                  have hxd : now < x.due := by
                    have h5 : ¬ x.due ≤ now := fun h6 => hit ⟨x, hx, h6⟩
                    omega
                  simp only [popV, if_pos hxd]
              rw [hv] at HPo
              have hs : popS (A.drop i) now = A.drop i := by
                cases hdr : A.drop i with
                | nil => rfl
                | cons x T =>
                  have hx : A[i]? = some x := by
                    have h5 : (A.drop i)[0]? = some x := by rw [hdr]; rfl
                    rw [List.getElem?_drop] at h5
                    simpa using h5
                  have hxd : now < x.due := by
                    have h5 : ¬ x.due ≤ now := fun h6 => hit ⟨x, hx, h6⟩
                    omega
                  simp only [popS, if_pos hxd]
              rw [hs] at HPo
              unfold zeroT at HPo
              clear hv hs hit
              go_wp2_with (go_at_call 21; (with_reducible refine HPo.out.mono ?_); rintro e w5 ⟨rfl, hq⟩; have HQn := Lib.hid hq; clear hq c5)
              obtain ⟨F2, hP2⟩ := HP.out.stay HQn.out (.cells #[.int .i64 0, .int .u32 0, .int .i64 0] 29)
              have HP2 := Lib.hid hP2
              clear hP2
              go_meet
              exact ⟨i, F2, HP2.out, HTw.out⟩
        case rest =>
          obtain ⟨i, Fb', hp, htw⟩ := hcut
          have hil := hp.le
          have hNF : N ∉ Fb := fun hm => by have := HFb.out _ hm; have := HN.out; omega
          have hDF : D ∉ Fb := fun hm => by have := HFb.out _ hm; have := HN.out; omega
          have hwl := HBw.out.size
          have hNW := HV.out.lt
          have hwz := hp.kb.size
          have hBx : Boxed wc N 35 v := (hp.kb.block N hNW hNF).trans HV.out
          have hr1 := own_kb HRow.out hp.kb (fun g hg hm => by have := (HRow.out.lt g hg).1; have := HFb.out _ hm; have := HN.out; omega)
          have hl9 := HN9.out.kb hp.kb H9b.out
          have hKc := (hp.kb.block D hDl hDF).trans HKd.out
          have hBc : Below X.heap.size X wc := hp.kb.after HGb.out HBw.out
          have hr2 := own_mono hp.row (show N ≤ W.heap.size by omega)
          have hti : (A.take i).length = i := by rw [List.length_take]; omega
          obtain ⟨f1, f2, f3, rfl, hR1, _, _⟩ := rt_of_row (L := A.filter (dueNow now)) hr1 (by omega)
          obtain ⟨e1, e2, e3, rfl, hR2, _, _⟩ := rt_of_row (L := A.take i) (by rw [hti]; exact hr2) (by omega)
          have hfe : A.filter (dueNow now) = A.take i := by rw [due_filter HOrd.out, htw]
          have hfl : ((A.filter (fun r => !dueNow now r)).length : Int) = (A.drop i).length := by
            have h5 := filter_both (dueNow now) A
            rw [hfe, hti] at h5
            rw [List.length_drop]
            omega
          have HSm := Lib.hid (show ∀ W', Below wc.heap.size wc W' → Calls Try.prog 22 #[.slice f2 (A.filter (dueNow now)).length f3, .slice e2 (A.take i).length e3] W' fun e w' => e = .returned (.bool true) ∧ Below W'.heap.size W' w' from fun W' hb => by
            obtain ⟨_, _, he1, hs1, _⟩ := (hR1.below hb).ex
            obtain ⟨_, _, he2, hs2, _⟩ := (hR2.below hb).ex
            cases he1
            cases he2
            have h5 := rSame_any _ _ _ _ f3 _ _ e3 _ _ W' hs1 hs2 (by rw [hfe, hti]; omega)
            rw [hfe] at h5 ⊢
            rwa [show decide (A.take i = A.take i) = true by simp] at h5)
          have HLn := Lib.hid (show ∀ W', Below wc.heap.size wc W' → Calls Try.prog 23 #[.pointer (some ⟨qb, 0, none⟩)] W' fun e w' => e = .returned (.int .i64 (A.filter (fun r => !dueNow now r)).length) ∧ W' = w' from fun W' hb => by
            rw [hfl]
            exact Len_q qb Fb' (A.drop i) W' (hp.qu.below hb))
          have HCell := Lib.hid (show ∀ W', Below wc.heap.size wc W' → W'.cell? ⟨N, 0, none⟩ = some (.slice f2 (A.filter (dueNow now)).length f3) ∧ W'.cell? ⟨c9, 0, none⟩ = some (.int .i64 (A.filter (fun r => !dueNow now r)).length) from fun W' hb => ⟨cellL hb hBx.cell, (hl9.below hb).c⟩)
          have HKc := Lib.hid hKc
          have HBc := Lib.hid hBc
          have hDc := (Array.getElem?_eq_some_iff.1 hKc).1
          rw [hti] at HSm ⊢
          clear hBx hr1 hl9 hKc hBc hr2 hti hR1 hR2 hfe hfl hp htw HV HRow HN9 HKd HQb HBw
          generalize (A.filter (fun r => !dueNow now r)).length = nl at *
          generalize (A.filter (dueNow now)).length = nf at *
          obtain ⟨x0, x1⟩ := HCell.out wc (Below.refl _ _)
          go_upto_region 33 with fail
          refine wp_nrmX ?_
          have HU := Lib.hid ((Below.refl wc.heap.size wc).drew)
          go_region_held3 (fun w' => w'.cell? ⟨N, 0, none⟩ = some (.slice f2 nf f3) ∧ w'.cell? ⟨c9, 0, none⟩ = some (.int .i64 nl))
            (first | with_reducible exact ⟨z0, z1⟩ | with_reducible exact ⟨y0, y1⟩ | go_keep)
            (first
              | (go_at_call 22; (with_reducible refine (HSm.out _ HU.out).mono ?_); rintro e w6 ⟨rfl, hb⟩; have hb6 := bthen HU.out hb; have HU6 := Lib.hid hb6; obtain ⟨y0, y1⟩ := HCell.out _ hb6; clear hb hb6)
              | (go_at_call 23; (with_reducible refine (HLn.out _ HU6.out).mono ?_); rintro e w7 ⟨rfl, rfl⟩)
              | (go_at_call 8; (with_reducible refine (works_any _).mono ?_); rintro e w8 ⟨rfl, hb⟩; have hb8 := bthen HU6.out hb; have HU8 := Lib.hid hb8; obtain ⟨z0, z1⟩ := HCell.out _ hb8; clear hb hb8))
          all_goals
            refine nrmX_intro ?_
            have k1 := (HU8.out.block D hDc).trans HKc.out
            have B2 := bthen HB1.out (bthen HBc.out HU8.out)
            have HK1 := Lib.hid k1
            have HB2 := Lib.hid B2
            clear k1 B2
            go_wp2_with fail
            have B3 := HB2.out.trans (belowK_b (w := w) (Nat.le_refl _) w8 D _ (.deferred none) (by omega) HK1.out rfl rfl)
            refine ⟨by simp, .inl ⟨_, _, rfl, run_takeDeferred HK1.out, ?_⟩⟩
            exact ⟨_, results_tmp rfl _ _ _, rfl, B3⟩
      case stop =>
        rintro D c pre W _ _ h _
        exact h.elim

set_option maxRecDepth 100000 in
set_option maxHeartbeats 4000000 in
theorem hold_more1 (w : World) (base1 base2 : Option Addr) (k1 c1 k2 c2 : Nat) (h : 30 < k1) (hm1 : k1 ≤ 9223372036854775807) (_hm2 : k2 ≤ 9223372036854775807) (now : Int) :
    Calls Try.prog 5 #[.slice base1 k1 c1, .slice base2 k2 c2, .int .i64 now] w fun e w' => e = .returned (.bool true) ∧ Below w.heap.size w w' := by
  have t1 : decide ((30 : Int) < (k1 : Int)) = true := by simp; omega
  have HB1 := Lib.hid (below1 w (.cells #[.int .i64 now] 2))
  go_enter Try.func5, Try.ntmps5
  go_wp2_with (go_at_call 8; (with_reducible refine (works_any _).mono ?_); rintro e w9 ⟨rfl, hb9⟩; have HB9 := Lib.hid hb9; clear hb9)
  go_ret
  exact ⟨rfl, bthen HB1.out HB9.out⟩
set_option maxRecDepth 100000 in
set_option maxHeartbeats 4000000 in
theorem hold_more2 (w : World) (base1 base2 : Option Addr) (k1 c1 k2 c2 : Nat) (h0 : k1 ≤ 30) (h : 30 < k2) (hm2 : k2 ≤ 9223372036854775807) (now : Int) :
    Calls Try.prog 5 #[.slice base1 k1 c1, .slice base2 k2 c2, .int .i64 now] w fun e w' => e = .returned (.bool true) ∧ Below w.heap.size w w' := by
  have t1 : decide ((30 : Int) < (k1 : Int)) = false := by simp; omega
  have t2 : decide ((30 : Int) < (k2 : Int)) = true := by simp; omega
  have HB1 := Lib.hid (below1 w (.cells #[.int .i64 now] 2))
  go_enter Try.func5, Try.ntmps5
  go_wp2_with (go_at_call 8; (with_reducible refine (works_any _).mono ?_); rintro e w9 ⟨rfl, hb9⟩; have HB9 := Lib.hid hb9; clear hb9)
  go_ret
  exact ⟨rfl, bthen HB1.out HB9.out⟩
theorem TimersHold_all (w : World) (base1 base2 : Option Addr) (b1 o1 k1 c1 b2 o2 k2 c2 : Nat) (kd a n d : Nat → Int) (h1 : TimsIn w base1 b1 o1 k1 kd a n) (h2 : L64In w base2 b2 o2 k2 d) (hm1 : k1 ≤ 9223372036854775807) (hm2 : k2 ≤ 9223372036854775807) (now : Int) :
    Calls Try.prog 5 #[.slice base1 k1 c1, .slice base2 k2 c2, .int .i64 now] w fun e w' => e = .returned (.bool true) ∧ Below w.heap.size w w' := by
  by_cases e1 : 30 < k1
  · exact hold_more1 w base1 base2 k1 c1 k2 c2 e1 hm1 hm2 now
  · by_cases e2 : 30 < k2
    · exact hold_more2 w base1 base2 k1 c1 k2 c2 (by omega) e2 hm2 now
    · exact TimersHold_any w base1 base2 b1 o1 k1 c1 b2 o2 k2 c2 kd a n d h1 h2 (by omega) (by omega) now
end Go.Proofs.Ytkigoihdmojpfaa
