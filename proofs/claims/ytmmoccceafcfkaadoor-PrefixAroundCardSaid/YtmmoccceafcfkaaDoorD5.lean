/- Contract: prefix.Parse: the walk. -/
import Derived.Test.YtmmoccceafcfkaaDoorD4
namespace Go.Proofs.YtmmoccceafcfkaaDoor
open Go.RowKit

def resP : Option (Int × Int) → Value
  | none => .tuple #[.agg #[.int .u32 0, .int .i64 0], .int .i64 120]
  | some (a, n) => .tuple #[.agg #[.int .u32 a, .int .i64 n], .int .i64 0]

/-- what holds of the world while Parse reads -/
structure QI (w0 : World) (s : ByteArray) (pos : Nat) (w : World) : Prop where
  below : Below w0.heap.size w0 w
  size : w0.heap.size + 2 < w.heap.size
  it : w.heap[w0.heap.size + 2]? = some (.stringIter s pos)
  res : PBox w w0.heap.size 0 0
theorem QI.only {w0 : World} {s : ByteArray} {pos : Nat} {w w' : World} (h : QI w0 s pos w) (o : Only (w0.heap.size + 1) w w') : QI w0 s pos w' := by
  have hs := h.size
  have hb : ∀ j, j < w.heap.size → j ≠ w0.heap.size + 1 → w'.heap[j]? = w.heap[j]? := fun j hj hne => o.block j hj hne
  exact ⟨⟨o.os.trans h.below.os, o.tape.trans h.below.tape, o.output.trans h.below.output, Nat.le_trans h.below.size o.size, fun k hk => (hb k (by omega) (by omega)).trans (h.below.block k hk)⟩,
    Nat.lt_of_lt_of_le hs o.size, (hb _ (by omega) (by omega)).trans h.it, (hb _ (by omega) (by omega)).trans h.res⟩
theorem QI.next {w0 : World} {s : ByteArray} {pos : Nat} {w : World} (h : QI w0 s pos w) (pos' : Nat) : QI w0 s pos' (w.iterAt (w0.heap.size + 2) s pos') :=
  ⟨Lib.below_iterAt h.below (by omega) s pos', by rw [Lib.iterAt_size]; exact h.size, Lib.iterAt_heap w _ s pos pos' h.it, (Lib.iterAt_other w _ _ s pos' (by omega)).trans h.res⟩
theorem TBox.next {w : World} {R K : Nat} {a len dg : Int} {sl : Bool} {s : ByteArray} {pos : Nat} (h : TBox w R a len sl dg) (hne : R ≠ K) : TBox (w.iterAt K s pos) R a len sl dg :=
  (Lib.iterAt_other w K R s pos hne).trans h
theorem TS.next {w : World} {R K : Nat} {s t : ByteArray} {pos p2 : Nat} (h : TS s pos w R) (hne : R ≠ K) : TS s pos (w.iterAt K t p2) R := by
  cases h with
  | a h e => exact .a (h.next hne) e
  | b h d hc h8 e => exact .b (h.next hne) d hc h8 e
  | c a len dg h e l0 l1 d0 d1 => exact .c a len dg (h.next hne) e l0 l1 d0 d1

set_option maxRecDepth 100000 in
set_option maxHeartbeats 2000000 in
theorem PParse_any (s : ByteArray) (w : World) (hs : s.size ≤ 1000000000000000) :
    Calls Tryd.prog 47 #[.string s] w fun e w' => e = .returned (resP (pfxS s.data.toList)) ∧ Below w.heap.size w w' := by
  have hdec : ∀ (pos : Nat) (hp : pos < s.size), ∃ c : Nat, ∃ wd : Nat, Utf8.decode s pos = (c, wd) ∧ 1 ≤ wd ∧ (((s[pos]'hp).toNat = c ∧ c < 128 ∧ wd = 1) ∨ (128 ≤ c ∧ 128 ≤ (s[pos]'hp).toNat)) := by
    intro pos hp
    by_cases ha : (s[pos]'hp).toNat < 128
    · exact ⟨_, _, decode_ascii s pos hp ha, Nat.le_refl _, Or.inl ⟨rfl, ha, rfl⟩⟩
    · exact ⟨(Utf8.decode s pos).1, (Utf8.decode s pos).2, rfl, (decode_high s pos hp (by omega)).2, Or.inr ⟨(decode_high s pos hp (by omega)).1, by omega⟩⟩
  have Hdec := Lib.hid hdec
  clear hdec
  have hst : QI w s 0 (((w.alloc (Obj.cells #[Value.int IntKind.u32 0, Value.int IntKind.i64 0] 25)).alloc (Obj.cells #[Value.int IntKind.u32 0, Value.int IntKind.i64 0, Value.bool false, Value.int IntKind.i64 0] 125)).iter s 0) := by
    have hb : ∀ (w : World) (s : ByteArray) (n : Nat), Below w.heap.size w (w.iter s n) := fun w s n => (Below.refl _ _).alloc (Nat.le_refl _) _
    refine ⟨bthen (((Below.refl _ _).alloc (Nat.le_refl _) _).alloc (by simp) _) (hb _ _ _), by simp [World.iter], ?_, ?_⟩
    · refine Eq.trans (congrArg (fun k => (World.iter _ s 0).heap[k]?) (show w.heap.size + 2 = _ from ?_)) (World.iter_heap _ s 0)
      simp
    · exact ((PBox.new w 0 0).alloc _).below (hb _ _ _)
  have htb : TBox (((w.alloc (Obj.cells #[Value.int IntKind.u32 0, Value.int IntKind.i64 0] 25)).alloc (Obj.cells #[Value.int IntKind.u32 0, Value.int IntKind.i64 0, Value.bool false, Value.int IntKind.i64 0] 125)).iter s 0) (w.heap.size + 1) 0 0 false 0 := by
    have hb : ∀ (w : World) (s : ByteArray) (n : Nat), Below w.heap.size w (w.iter s n) := fun w s n => (Below.refl _ _).alloc (Nat.le_refl _) _
    refine TBox.below ?_ (hb _ _ _)
    have := World.alloc_heap_new (w.alloc (Obj.cells #[Value.int IntKind.u32 0, Value.int IntKind.i64 0] 25)) (Obj.cells #[Value.int IntKind.u32 0, Value.int IntKind.i64 0, Value.bool false, Value.int IntKind.i64 0] 125)
    rw [World.size_alloc] at this
    exact this
  have Hst := Lib.hid hst
  have Htb := Lib.hid htb
  clear hst htb
  go_enter Tryd.func47, Tryd.ntmps47
  go_wp2_with fail
  refine wp_scope_fwd 0 rfl ?_
  go_wp2_with fail
  simp only [Nat.add_assoc, Nat.reduceAdd]
  go_loopw [9] (fun _ wr => ∃ (pos : Nat), QI w s pos wr ∧ TS s pos wr (w.heap.size + 1)) (fun _ wr => s.size - wr.iterPos (w.heap.size + 2))
  case atStart => exact ⟨0, Hst.out, .a Htb.out (by simp [pfxS])⟩
  case round =>
    obtain ⟨pos, hpi, hts⟩ := hrel
    clear Hst Htb
    by_cases hp : pos < s.size
    · obtain ⟨c, wd, hde, hwd, hcc⟩ := Hdec.out pos hp
      have hnx : ∀ ty, (Instr.next (.pointer (some ⟨w.heap.size + 2, 0, none⟩)) true ty).run Tryd.prog wr = .ok (.tuple #[.bool true, .int .i64 pos, .int .i32 c]) (wr.iterAt (w.heap.size + 2) s (pos + wd)) := fun ty => by
        have := Lib.run_next_any_at (P := Tryd.prog) wr (w.heap.size + 2) s pos ty hpi.it hp
        rw [hde] at this
        exact this
      have hp1 := hpi.next (pos + wd)
      have hts1 := hts.next (K := w.heap.size + 2) (t := s) (p2 := pos + wd) (by omega)
      have hip : wr.iterPos (w.heap.size + 2) = pos := iterPos_of hpi.it
      have HC := Lib.hid hcc
      have HIP := Lib.hid hip
      clear hde hcc hpi hts hip
      generalize wr.iterAt (w.heap.size + 2) s (pos + wd) = W1 at *
      have HP1 := Lib.hid hp1
      have HTS := Lib.hid hts1
      clear hp1 hts1
      go_wp2_with fail
      refine (ptake_step s pos (w.heap.size + 1) W1 c wd hp hs HTS.out hwd HC.out).mono ?_
      rintro e w2 ⟨b, rfl, ho, hb1, hb2⟩
      have hq := HP1.out.only ho
      cases b with
      | true =>
        have HT := Lib.hid (hb1 rfl)
        have HQ := Lib.hid hq
        clear hb1 hb2 hq ho
        go_wp2_with fail
        go_roundw
        case rel => exact ⟨pos + wd, HQ.out, HT.out⟩
        case measure =>
          rw [iterPos_of HQ.out.it, HIP.out]
          omega
      | false =>
        have HN := Lib.hid (hb2 rfl)
        have pr := hq.res
        have b1 := hq.below
        clear hb1 hb2 hq ho
        have g0 := pr.c0
        have g1 := pr.c1
        have g2 := pr.f0
        have g3 := pr.f1
        go_wp2_with fail
        go_step3
        refine ⟨rfl, ?_⟩
        go_wp2_with fail
        rw [Exit.noGoto_ret]
        have p2 := pr.set 0 0
        have b2 := (b1.setCell (p := ⟨w.heap.size, 0, none⟩) (Nat.le_refl _) (.int .u32 0)).setCell (p := ⟨w.heap.size, 1, none⟩) (Nat.le_refl _) (.int .i64 0)
        generalize (w2.setCell ⟨w.heap.size, 0, none⟩ (.int .u32 0)).setCell ⟨w.heap.size, 1, none⟩ (.int .i64 0) = W9 at *
        have z0 := p2.c0
        have z1 := p2.c1
        refine bodyPost_ret (v := resP none) (by simp [resP, results, Tryd.results47, go_sem, z0, z1]) rfl ⟨by rw [HN.out], b2⟩
    · have hnx : ∀ ty, (Instr.next (.pointer (some ⟨w.heap.size + 2, 0, none⟩)) true ty).run Tryd.prog wr = _ := fun ty => Lib.run_next_end_at (P := Tryd.prog) wr (w.heap.size + 2) s pos ty hpi.it hp
      have hdr : s.data.toList.drop pos = [] := List.drop_of_length_le (by simpa using hp)
      have hend : (TBox wr (w.heap.size + 1) 0 0 false 0 ∧ pfxS s.data.toList = none) ∨ (∃ a len dg, TBox wr (w.heap.size + 1) a len true dg ∧ (if dg = 0 ∨ rightB a len = false then none else some (a, len)) = pfxS s.data.toList) := by
        cases hts with
        | a h e => rw [hdr] at e; exact .inl ⟨h, e.symm⟩
        | b h d hc h8 e => exact .inl ⟨h, e⟩
        | c a len dg h e l0 l1 d0 d1 => rw [hdr] at e; exact .inr ⟨a, len, dg, h, e⟩
      have pr := hpi.res
      have b1 := hpi.below
      clear hpi hts hdr
      have g0 := pr.c0
      have g1 := pr.c1
      have g2 := pr.f0
      have g3 := pr.f1
      rcases hend with ⟨ht, hn⟩ | ⟨a, len, dg, ht, hn⟩
      · have HN := Lib.hid hn
        clear hn
        have c3 := ht.c3
        go_wp2_with fail
        go_step3
        refine ⟨rfl, ?_⟩
        go_wp2_with fail
        rw [Exit.noGoto_ret]
        have p2 := pr.set 0 0
        have b2 := (b1.setCell (p := ⟨w.heap.size, 0, none⟩) (Nat.le_refl _) (.int .u32 0)).setCell (p := ⟨w.heap.size, 1, none⟩) (Nat.le_refl _) (.int .i64 0)
        generalize (wr.setCell ⟨w.heap.size, 0, none⟩ (.int .u32 0)).setCell ⟨w.heap.size, 1, none⟩ (.int .i64 0) = W9 at *
        have z0 := p2.c0
        have z1 := p2.c1
        refine bodyPost_ret (v := resP none) (by simp [resP, results, Tryd.results47, go_sem, z0, z1]) rfl ⟨by rw [HN.out], b2⟩
      · have c0 := ht.c0
        have c1 := ht.c1
        have c3 := ht.c3
        by_cases hd : dg = 0
        · rw [if_pos (.inl hd)] at hn
          have HN := Lib.hid hn.symm
          subst hd
          clear hn
          go_wp2_with fail
          go_step3
          refine ⟨rfl, ?_⟩
          go_wp2_with fail
          rw [Exit.noGoto_ret]
          have p2 := pr.set 0 0
          have b2 := (b1.setCell (p := ⟨w.heap.size, 0, none⟩) (Nat.le_refl _) (.int .u32 0)).setCell (p := ⟨w.heap.size, 1, none⟩) (Nat.le_refl _) (.int .i64 0)
          generalize (wr.setCell ⟨w.heap.size, 0, none⟩ (.int .u32 0)).setCell ⟨w.heap.size, 1, none⟩ (.int .i64 0) = W9 at *
          have z0 := p2.c0
          have z1 := p2.c1
          refine bodyPost_ret (v := resP none) (by simp [resP, results, Tryd.results47, go_sem, z0, z1]) rfl ⟨by rw [HN.out], b2⟩
        · have t1 : (dg == 0) = false := by simpa using hd
          cases hr : rightB a len with
          | false =>
            rw [if_pos (.inr hr)] at hn
            have HN := Lib.hid hn.symm
            have HR := Lib.hid hr
            clear hn hr hd
            go_wp2_with fail
            refine (mayBe1 wr.heap.size a len _ false HR.out ?_ ?_).mono ?_
            iterate 2 (· simp [go_sem])
            rintro e w2 ⟨rfl, hb⟩
            replace pr := (pr.alloc _).below hb
            replace b1 := bthen (b1.alloc b1.size _) hb
            clear g0 g1 g2 g3
            have g0 := pr.c0
            have g1 := pr.c1
            have g2 := pr.f0
            have g3 := pr.f1
            go_wp2_with fail
            go_step3
            refine ⟨rfl, ?_⟩
            go_wp2_with fail
            rw [Exit.noGoto_ret]
            have p2 := pr.set 0 0
            have b2 := (b1.setCell (p := ⟨w.heap.size, 0, none⟩) (Nat.le_refl _) (.int .u32 0)).setCell (p := ⟨w.heap.size, 1, none⟩) (Nat.le_refl _) (.int .i64 0)
            generalize (w2.setCell ⟨w.heap.size, 0, none⟩ (.int .u32 0)).setCell ⟨w.heap.size, 1, none⟩ (.int .i64 0) = W9 at *
            have z0 := p2.c0
            have z1 := p2.c1
            refine bodyPost_ret (v := resP none) (by simp [resP, results, Tryd.results47, go_sem, z0, z1]) rfl ⟨by rw [HN.out], b2⟩
          | true =>
            rw [if_neg (by simp [hd, hr])] at hn
            have HN := Lib.hid hn.symm
            have HR := Lib.hid hr
            clear hn hr hd
            go_wp2_with fail
            refine (mayBe1 wr.heap.size a len _ true HR.out ?_ ?_).mono ?_
            iterate 2 (· simp [go_sem])
            rintro e w2 ⟨rfl, hb⟩
            replace pr := (pr.alloc _).below hb
            replace b1 := bthen (b1.alloc b1.size _) hb
            replace ht := TBox.below (TBox.below ht ((Below.refl _ wr).alloc (Nat.le_refl _) _)) hb
            clear g0 g1 g2 g3 c0 c1 c3
            have g0 := pr.c0
            have g1 := pr.c1
            have g2 := pr.f0
            have g3 := pr.f1
            have c0 := ht.c0
            have c1 := ht.c1
            go_wp2_with fail
            have p2 := pr.set a len
            have b2 := (b1.setCell (p := ⟨w.heap.size, 0, none⟩) (Nat.le_refl _) (.int .u32 a)).setCell (p := ⟨w.heap.size, 1, none⟩) (Nat.le_refl _) (.int .i64 len)
            generalize (w2.setCell ⟨w.heap.size, 0, none⟩ (.int .u32 a)).setCell ⟨w.heap.size, 1, none⟩ (.int .i64 len) = W9 at *
            have z0 := p2.c0
            have z1 := p2.c1
            simp only [Exit.jump]
            refine bodyPost_ret (v := resP (some (a, len))) (by simp [resP, results, Tryd.results47, go_sem, z0, z1]) rfl ⟨by rw [HN.out], b2⟩

end Go.Proofs.YtmmoccceafcfkaaDoor
