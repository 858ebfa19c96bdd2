/- Contract: trie.Put (a new key). Printed by gen_t9.py. -/
import Derived.Test.YtbacahoihkpkpaaDoorT8
namespace Go.Proofs.YtbacahoihkpkpaaDoor
open Go.RowKit Go.Shelf

theorem TT.spot_keys {t : TT} {p : Key} {b : Nat} {k : Key} {o : Option Int} {l r : TT} (h : t.spot p = .node b k o l r) : k ∈ t.keys := by
  induction t with
  | nil => simp [TT.spot] at h
  | node b' k' o' l' r' il ir =>
    simp only [TT.spot] at h
    simp only [TT.keys, List.mem_cons, List.mem_append]
    repeat' split at h
    · cases h; exact .inl rfl
    · exact .inr (.inr (ir h))
    · exact .inr (.inl (il h))
    · cases h; exact .inl rfl

set_option maxRecDepth 100000 in
set_option maxHeartbeats 4000000 in
theorem Put_long (q : Nat) (t : TT) (p : Key) (v : Int) (w : World) (h : TrS w q t) (hR : RelsAt w) (hp : p.length ≤ 32) (hg : t.get p = none) (hL : 512 ≤ t.rows.length) :
    Calls Tryd.prog 14 #[.pointer (some ⟨q, 0, none⟩), .agg #[.int .u32 (ka p), .int .i64 p.length], .int .i64 v] w fun e w' => e = .returned (.tuple #[.int .i64 0, .bool false, .int .i64 3]) ∧ Below w.heap.size w w' := by
  have b0 : Below w.heap.size w (w.alloc (.cells #[.int .u32 (ka p), .int .i64 p.length] 26)) := (Below.refl _ w).alloc (Nat.le_refl _) _
  have hN := Lib.hid (none_t q t _ (h.below b0))
  have hC := Lib.hid (Check_t (ka p) p.length (w.alloc (.cells #[.int .u32 (ka p), .int .i64 p.length] 26)) (ka_right hp))
  have hpb : PBox (w.alloc (.cells #[.int .u32 (ka p), .int .i64 p.length] 26)) w.heap.size (ka p) p.length := PBox.new w _ _
  have HPB := Lib.hid hpb
  have HB0 := Lib.hid b0
  have H := Lib.hid h
  have HR := Lib.hid hR
  clear h hR b0 hpb
  go_enter Tryd.func14, Tryd.ntmps14
  go_wp2_with fail
  refine wp_scope_fwd 0 rfl ?_
  go_wp2_with (first
    | (go_at_call 34; with_reducible refine hN.out.mono ?_; rintro e w' ⟨rfl, rfl⟩)
    | (go_at_call 36; with_reducible refine hC.out.mono ?_; rintro e w1 ⟨rfl, hb⟩; have HB1 := Lib.hid (bthen HB0.out hb); have hpb1 := HPB.out.below hb; have d0 := hpb1.c0; have d1 := hpb1.c1; have HPB1 := Lib.hid hpb1; clear hb hpb1)
    | fail)
  have hst1 := H.out.below HB1.out
  go_upto_region 7 with (go_at_call 38; refine (place_any q p t hp hst1.keysLen w1 hst1.at hst1.lt (HR.out.below HB1.out)).mono ?_; rintro e w3 ⟨rfl, hb3⟩; have HB3 := Lib.hid hb3; clear hb3)
  have hst := hst1.below HB3.out
  have hpb3 := HPB1.out.below HB3.out
  clear hst1 d0 d1
  have hT := hst.cellT p
  have hni := TT.place_notin (t := t) (p := p) (a := ⟨q, 0, none⟩) hst.nodup
  have hnd := TT.spot_nodup (p := p) (List.nodup_cons.1 hst.nodup).2
  have hpf := hst.placeF p
  have hsn : (t.place p ⟨q, 0, none⟩).spot = none := TT.place_path rfl
  have htop : ∀ b k o l r, t.spot p = TT.node b k o l r → (k = p ∨ ¬ k <+: p) ∧ k ∈ t.keys := fun b k o l r e => ⟨TT.spot_top e, TT.spot_keys e⟩
  have hm1 := hst.c1
  obtain ⟨⟨ab, ao, as1⟩, ha⟩ : ∃ a, t.place p ⟨q, 0, none⟩ = a := ⟨_, rfl⟩
  obtain ⟨X, hX⟩ : ∃ X, t.spot p = X := ⟨_, rfl⟩
  rw [TT.get_spot] at hg
  rw [ha] at hT hni hsn hpf ⊢
  simp only at hsn
  subst hsn
  rw [hX] at hT hni hnd htop hg
  obtain ⟨P, hPp⟩ : ∃ P, X.ptr = P := ⟨_, rfl⟩
  have ca := hT.1
  rw [hPp] at ca
  have HPp := Lib.hid hPp
  clear hPp
  have d0 := hpb3.c0
  have d1 := hpb3.c1
  have HT := Lib.hid hT
  have HNi := Lib.hid hni
  have HNd := Lib.hid hnd
  have HSt := Lib.hid hst
  have HA := Lib.hid ha
  have HX := Lib.hid hX
  have HPF := Lib.hid hpf
  have HTop := Lib.hid htop
  have HG := Lib.hid hg
  have HPb := Lib.hid hpb3
  clear hT hni hnd hst hpb3 ha hX hpf htop hg
  go_upto_region 8 with fail
  go_cut [37] (fun s wx => s = .bool false ∧ ∃ n, wx = w3.drewN n)
  case first => as_aux_lemma =>
    cases X with
    | nil =>
      obtain rfl : P = .pointer none := HPp.out.symm
      go_quiet (fail)
      go_wp2_with fail
      go_meet
      exact ⟨rfl, _, rfl⟩
    | node b k o l r =>
      have n0 := HT.out.2.c0
      have n1 := HT.out.2.c1
      have n3 := HT.out.2.c3
      obtain rfl : P = .pointer (some ⟨b, 0, none⟩) := HPp.out.symm
      obtain ⟨ht, hkm⟩ := HTop.out b k o l r rfl
      have hk32 := HSt.out.keysLen k hkm
      by_cases hkp : k = p
      · subst hkp
        have ho : o = none := by have := HG.out; simpa using this
        subst ho
        simp only [Option.isSome_none] at n3
        clear ht
        go_quiet (fail)
        go_wp2_with fail
        go_meet
        exact ⟨rfl, _, rfl⟩
      · rcases neq_cases hk32 hkp with h1 | ⟨e1, h1, h2⟩
        · clear ht
          go_quiet (fail)
          go_wp2_with fail
          go_meet
          exact ⟨rfl, _, rfl⟩
        · clear ht
          rw [e1] at n0
          go_quiet (fail)
          go_wp2_with fail
          go_meet
          exact ⟨rfl, _, rfl⟩
  case rest =>
    obtain ⟨rfl, nq, rfl⟩ := hcut
    have hmw : (w3.drewN nq).cell? ⟨q, 1, none⟩ = some (.int .i64 t.rows.length) := hm1
    have e0 : (w3.drewN nq).cell? ⟨w.heap.size, 0, none⟩ = some (.int .u32 (ka p)) := d0
    have e1 : (w3.drewN nq).cell? ⟨w.heap.size, 1, none⟩ = some (.int .i64 p.length) := d1
    have hst4 : TrS (w3.drewN nq) q t := HSt.out.below (below_drewN (Below.refl _ _) _)
    have hT4 : TAt (w3.drewN nq) ⟨ab, ao, none⟩ X := HT.out.below (by have := World.block_lt_of_cell? w3 _ ca; simpa using this) rfl (below_drewN (Below.refl _ _) _)
    have hF4 : (w3.drewN nq).frozen? ⟨ab, ao, none⟩ = false := HPF.out
    have hB4 : Below w.heap.size w (w3.drewN nq) := below_drewN (bthen HB1.out HB3.out) _
    generalize w3.drewN nq = w4 at *
    clear ca d0 d1 hm1
    have HSt4 := Lib.hid hst4
    have HT4 := Lib.hid hT4
    have HF4 := Lib.hid hF4
    have HB4 := Lib.hid hB4
    clear hst4 hT4 hF4 hB4
    have t1 : decide ((512 : Int) ≤ (t.rows.length : Int)) = true := by simp; omega
    have t2 : decide (512 ≤ t.rows.length) = true := by simp [hL]
    go_wp2_with fail
    go_step3
    refine ⟨rfl, ?_⟩
    go_wp2_with fail
    rw [Exit.noGoto_ret]
    go_ret3
    exact ⟨rfl, HB4.out⟩

set_option maxRecDepth 100000 in
set_option maxHeartbeats 4000000 in
theorem Put_new (q : Nat) (t : TT) (p : Key) (v : Int) (w : World) (h : TrS w q t) (hR : RelsAt w) (hp : p.length ≤ 32) (hg : t.get p = none) (hL : t.rows.length < 512) :
    Calls Tryd.prog 14 #[.pointer (some ⟨q, 0, none⟩), .agg #[.int .u32 (ka p), .int .i64 p.length], .int .i64 v] w fun e w' => e = .returned (.tuple #[.int .i64 0, .bool false, .int .i64 0]) ∧ ∃ t', Went w w' q t t' ∧ PutR t t' p v := by
  have HG0 := Lib.hid hg
  have b0 : Below w.heap.size w (w.alloc (.cells #[.int .u32 (ka p), .int .i64 p.length] 26)) := (Below.refl _ w).alloc (Nat.le_refl _) _
  have hN := Lib.hid (none_t q t _ (h.below b0))
  have hC := Lib.hid (Check_t (ka p) p.length (w.alloc (.cells #[.int .u32 (ka p), .int .i64 p.length] 26)) (ka_right hp))
  have hpb : PBox (w.alloc (.cells #[.int .u32 (ka p), .int .i64 p.length] 26)) w.heap.size (ka p) p.length := PBox.new w _ _
  have HPB := Lib.hid hpb
  have HB0 := Lib.hid b0
  have H := Lib.hid h
  have HR := Lib.hid hR
  clear h hR b0 hpb
  go_enter Tryd.func14, Tryd.ntmps14
  go_wp2_with fail
  go_step3
  go_wp2_with (first
    | (go_at_call 34; with_reducible refine hN.out.mono ?_; rintro e w' ⟨rfl, rfl⟩)
    | (go_at_call 36; with_reducible refine hC.out.mono ?_; rintro e w1 ⟨rfl, hb⟩; have HB1 := Lib.hid (bthen HB0.out hb); have hpb1 := HPB.out.below hb; have d0 := hpb1.c0; have d1 := hpb1.c1; have HPB1 := Lib.hid hpb1; clear hb hpb1)
    | fail)
  have hst1 := H.out.below HB1.out
  go_upto_region 7 with (go_at_call 38; refine (place_any q p t hp hst1.keysLen w1 hst1.at hst1.lt (HR.out.below HB1.out)).mono ?_; rintro e w3 ⟨rfl, hb3⟩; have HB3 := Lib.hid hb3; clear hb3)
  have hst := hst1.below HB3.out
  have hpb3 := HPB1.out.below HB3.out
  clear hst1 d0 d1
  have hT := hst.cellT p
  have hni := TT.place_notin (t := t) (p := p) (a := ⟨q, 0, none⟩) hst.nodup
  have hnd := TT.spot_nodup (p := p) (List.nodup_cons.1 hst.nodup).2
  have hpf := hst.placeF p
  have hsn : (t.place p ⟨q, 0, none⟩).spot = none := TT.place_path rfl
  have htop : ∀ b k o l r, t.spot p = TT.node b k o l r → (k = p ∨ ¬ k <+: p) ∧ k ∈ t.keys := fun b k o l r e => ⟨TT.spot_top e, TT.spot_keys e⟩
  have hm1 := hst.c1
  obtain ⟨⟨ab, ao, as1⟩, ha⟩ : ∃ a, t.place p ⟨q, 0, none⟩ = a := ⟨_, rfl⟩
  obtain ⟨X, hX⟩ : ∃ X, t.spot p = X := ⟨_, rfl⟩
  rw [TT.get_spot] at hg
  rw [ha] at hT hni hsn hpf ⊢
  simp only at hsn
  subst hsn
  rw [hX] at hT hni hnd htop hg
  obtain ⟨P, hPp⟩ : ∃ P, X.ptr = P := ⟨_, rfl⟩
  have ca := hT.1
  rw [hPp] at ca
  have HPp := Lib.hid hPp
  clear hPp
  have d0 := hpb3.c0
  have d1 := hpb3.c1
  have HT := Lib.hid hT
  have HNi := Lib.hid hni
  have HNd := Lib.hid hnd
  have HSt := Lib.hid hst
  have HA := Lib.hid ha
  have HX := Lib.hid hX
  have HPF := Lib.hid hpf
  have HTop := Lib.hid htop
  have HG := Lib.hid hg
  have HPb := Lib.hid hpb3
  clear hT hni hnd hst hpb3 ha hX hpf htop hg
  go_upto_region 8 with fail
  go_cut [37] (fun s wx => s = .bool false ∧ ∃ n, wx = w3.drewN n)
  case first => as_aux_lemma =>
    cases X with
    | nil =>
      obtain rfl : P = .pointer none := HPp.out.symm
      go_quiet (fail)
      go_wp2_with fail
      go_meet
      exact ⟨rfl, _, rfl⟩
    | node b k o l r =>
      have n0 := HT.out.2.c0
      have n1 := HT.out.2.c1
      have n3 := HT.out.2.c3
      obtain rfl : P = .pointer (some ⟨b, 0, none⟩) := HPp.out.symm
      obtain ⟨ht, hkm⟩ := HTop.out b k o l r rfl
      have hk32 := HSt.out.keysLen k hkm
      by_cases hkp : k = p
      · subst hkp
        have ho : o = none := by have := HG.out; simpa using this
        subst ho
        simp only [Option.isSome_none] at n3
        clear ht
        go_quiet (fail)
        go_wp2_with fail
        go_meet
        exact ⟨rfl, _, rfl⟩
      · rcases neq_cases hk32 hkp with h1 | ⟨e1, h1, h2⟩
        · clear ht
          go_quiet (fail)
          go_wp2_with fail
          go_meet
          exact ⟨rfl, _, rfl⟩
        · clear ht
          rw [e1] at n0
          go_quiet (fail)
          go_wp2_with fail
          go_meet
          exact ⟨rfl, _, rfl⟩
  case rest =>
    obtain ⟨rfl, nq, rfl⟩ := hcut
    have hmw : (w3.drewN nq).cell? ⟨q, 1, none⟩ = some (.int .i64 t.rows.length) := hm1
    have e0 : (w3.drewN nq).cell? ⟨w.heap.size, 0, none⟩ = some (.int .u32 (ka p)) := d0
    have e1 : (w3.drewN nq).cell? ⟨w.heap.size, 1, none⟩ = some (.int .i64 p.length) := d1
    have hst4 : TrS (w3.drewN nq) q t := HSt.out.below (below_drewN (Below.refl _ _) _)
    have hT4 : TAt (w3.drewN nq) ⟨ab, ao, none⟩ X := HT.out.below (by have := World.block_lt_of_cell? w3 _ ca; simpa using this) rfl (below_drewN (Below.refl _ _) _)
    have hF4 : (w3.drewN nq).frozen? ⟨ab, ao, none⟩ = false := HPF.out
    have hB4 : Below w.heap.size w (w3.drewN nq) := below_drewN (bthen HB1.out HB3.out) _
    generalize w3.drewN nq = w4 at *
    clear ca d0 d1 hm1
    have HSt4 := Lib.hid hst4
    have HT4 := Lib.hid hT4
    have HF4 := Lib.hid hF4
    have HB4 := Lib.hid hB4
    clear hst4 hT4 hF4 hB4
    have t1 : decide ((512 : Int) ≤ (t.rows.length : Int)) = false := by simp; omega
    have t2 : decide (512 ≤ t.rows.length) = false := by simp; omega
    have hnn : (ab :: X.blocks).Nodup := List.nodup_cons.2 ⟨HNi.out, HNd.out⟩
    have hang : Calls Tryd.prog 39 #[.pointer (some ⟨ab, ao, none⟩), .agg #[.int .u32 (ka p), .int .i64 p.length], .int .i64 v] w4 fun e w' => (∃ u, e = .returned u) ∧ ∃ b1 b2, w4.heap.size ≤ b1 ∧ w4.heap.size ≤ b2 ∧ b1 ≠ b2 ∧ HangP w4 w' ⟨ab, ao, none⟩ X (TT.hang b1 b2 p v X) := by
      cases X with
      | nil => exact (hang_nil ab ao p v w4 HT4.out.1 HF4.out).mono fun e w' ⟨he, b1, h1, h2, h3⟩ => ⟨he, b1, b1 + 1, h1, by omega, by omega, h3 _⟩
      | node b k o l r =>
        obtain ⟨ht, hkm⟩ := HTop.out b k o l r rfl
        have hk32 := HSt.out.keysLen k hkm
        by_cases hkp : k = p
        · subst hkp
          exact (hang_same ab ao b k v o l r w4 HT4.out.1 HT4.out.2 hnn).mono fun e w' ⟨he, h3⟩ => ⟨he, w4.heap.size, w4.heap.size + 1, by omega, by omega, by omega, h3 _ _⟩
        · have hnp : ¬ k <+: p := by rcases ht with h | h; exact absurd h hkp; exact h
          exact (hang_part ab ao b k p v o l r w4 hk32 hp hnp HT4.out.1 HF4.out HT4.out.2 hnn).mono fun e w' ⟨he, b1, b2, h1, h2, h3, h4⟩ => ⟨he, b1, b2, h1, by omega, by omega, h4⟩
    have HHang := Lib.hid hang
    clear hang hnn
    go_upto_region 14 with (go_at_call 39; with_reducible refine HHang.out.mono ?_; rintro e w5 ⟨⟨u, rfl⟩, b1, b2, h1, h2, h3, hP⟩)
    rw [← HA.out, ← HX.out] at hP
    obtain ⟨hbox, hW⟩ := went_new HSt4.out hp HG0.out hP h1 h2 h3
    have g1 : w5.cell? ⟨q, 1, none⟩ = some (.int .i64 t.rows.length) := cell_heap hbox
    have g2 : w5.frozen? ⟨q, 1, none⟩ = false := by simp [World.frozen?, hbox]
    have HW := Lib.hid hW
    clear hP hbox hW hmw e0 e1 h1 h2 h3
    go_wp2_with fail
    rw [Exit.noGoto_ret]
    go_ret3
    exact ⟨rfl, _, HW.out.after HB4.out, (TT.put_ok HSt4.out.wf hp _ _).2.2⟩
end Go.Proofs.YtbacahoihkpkpaaDoor
