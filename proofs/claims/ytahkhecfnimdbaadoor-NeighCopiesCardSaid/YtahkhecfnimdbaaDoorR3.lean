/- What is told of no neighbours. -/
import Derived.Test.YtahkhecfnimdbaaDoorR2
import Derived.Test.YtahkhecfnimdbaaDoorM2
namespace Go.Proofs.YtahkhecfnimdbaaDoor
open Go.RowKit Go.Maps

set_option maxHeartbeats 4000000 in
theorem Get_nil (f a : Int) (w : World) :
    Calls Tryd.prog 14 #[.pointer none, .int .i64 f, .int .u32 a] w fun e w' => e = .returned (.tuple #[.agg #[.int .i64 0, .int .u32 0, .int .i64 0, .int .i64 0, .int .i64 0], .bool false]) ∧ Below w.heap.size w w' := by
  go_enter Tryd.func14, Tryd.ntmps14
  go_wp2_with (go_at_call 26; refine (none_nil _).mono ?_; rintro e w' ⟨rfl, rfl⟩)
  exact bodyPost_ret (v := .tuple #[recV zeroR, .bool false]) (by simp [results, Tryd.results14, go_sem, recV, zeroR]) rfl ⟨rfl, below_k _ _⟩
set_option maxHeartbeats 4000000 in
set_option maxRecDepth 100000 in
theorem Hear_nil (f a nw bad : Int) (w : World) :
    Calls Tryd.prog 11 #[.pointer none, .int .i64 f, .int .u32 a, .int .i64 nw, .int .i64 bad] w fun e w' => e = .returned (.int .i64 1) ∧ Below w.heap.size w w' := by
  go_enter Tryd.func11, Tryd.ntmps11
  go_wp2_with fail
  refine wp_scope_fwd 0 rfl ?_
  go_wp2_with (go_at_call 26; refine (none_nil _).mono ?_; rintro e w' ⟨rfl, rfl⟩)
  go_step3
  refine ⟨rfl, ?_⟩
  go_wp2_with fail
  rw [Exit.noGoto_ret]
  go_ret
  exact ⟨rfl, below_k _ _⟩
set_option maxHeartbeats 4000000 in
theorem drop_nil (g q : Nat) (w : World) :
    Calls Tryd.prog 30 #[.pointer none, .func (.func g) #[] #[.pointer (some ⟨q, 0, none⟩)]] w fun e w' => e = .returned (.int .i64 0) ∧ Below w.heap.size w w' := by
  go_enter Tryd.func30, Tryd.ntmps30
  go_wp2_with (go_at_call 26; refine (none_nil _).mono ?_; rintro e w' ⟨rfl, rfl⟩)
  go_ret
  exact ⟨rfl, by first | exact Below.refl _ _ | exact below_k _ _⟩
set_option maxHeartbeats 4000000 in
theorem Forget_nil (f : Int) (w : World) :
    Calls Tryd.prog 12 #[.pointer none, .int .i64 f] w fun e w' => e = .returned (.int .i64 0) ∧ Below w.heap.size w w' := by
  go_enter Tryd.func12, Tryd.ntmps12
  go_wp2_with (go_at_call 30; refine (drop_nil _ _ _).mono ?_; rintro e w2 ⟨rfl, hb⟩; have HB := Lib.hid hb; clear hb)
  go_ret
  exact ⟨rfl, bthen (below_k _ _) HB.out⟩
set_option maxHeartbeats 4000000 in
theorem Since_nil (f : Int) (w : World) :
    Calls Tryd.prog 13 #[.pointer none, .int .i64 f] w fun e w' => e = .returned (.int .i64 0) ∧ Below w.heap.size w w' := by
  go_enter Tryd.func13, Tryd.ntmps13
  go_wp2_with (go_at_call 30; refine (drop_nil _ _ _).mono ?_; rintro e w2 ⟨rfl, hb⟩; have HB := Lib.hid hb; clear hb)
  go_ret
  exact ⟨rfl, bthen (below_k _ _) HB.out⟩
set_option maxHeartbeats 400000 in
theorem Len_nil (w : World) : Calls Tryd.prog 15 #[.pointer none] w fun e w' => e = .returned (.int .i64 0) ∧ w = w' := by
  go_enter Tryd.func15, Tryd.ntmps15
  go_wp2_with (go_at_call 26; refine (none_nil _).mono ?_; rintro e w' ⟨rfl, rfl⟩)
  go_ret
  exact ⟨rfl, rfl⟩
set_option maxHeartbeats 400000 in
theorem Lost_nil (w : World) : Calls Tryd.prog 21 #[.pointer none] w fun e w' => e = .returned (.int .i64 0) ∧ w = w' := by
  go_enter Tryd.func21, Tryd.ntmps21
  go_wp2_with (go_at_call 26; refine (none_nil _).mono ?_; rintro e w' ⟨rfl, rfl⟩)
  go_ret
  exact ⟨rfl, rfl⟩
set_option maxHeartbeats 400000 in
theorem Now_nil (w : World) : Calls Tryd.prog 22 #[.pointer none] w fun e w' => e = .returned (.int .i64 0) ∧ w = w' := by
  go_enter Tryd.func22, Tryd.ntmps22
  go_wp2_with (go_at_call 26; refine (none_nil _).mono ?_; rintro e w' ⟨rfl, rfl⟩)
  go_ret
  exact ⟨rfl, rfl⟩
set_option maxHeartbeats 400000 in
theorem sorted_nil (w : World) : Calls Tryd.prog 37 #[.pointer none] w fun e w' => e = .returned (.slice none 0 0) ∧ w = w' := by
  go_enter Tryd.func37, Tryd.ntmps37
  go_wp2_with (go_at_call 26; refine (none_nil _).mono ?_; rintro e w' ⟨rfl, rfl⟩)
  go_ret
  exact ⟨rfl, rfl⟩
set_option maxHeartbeats 400000 in
theorem All_nil (w : World) : Calls Tryd.prog 17 #[.pointer none] w fun e w' => e = .returned (.func (.func 38) #[] #[.pointer (some ⟨w.heap.size, 0, none⟩)]) ∧ w' = w.alloc (.cells #[.slice none 0 0] 45) := by
  go_enter Tryd.func17, Tryd.ntmps17
  go_wp2_with (go_at_call 37; refine (sorted_nil _).mono ?_; rintro e w' ⟨rfl, rfl⟩)
  go_ret
  exact ⟨rfl, rfl⟩
set_option maxHeartbeats 400000 in
theorem Copy_nil (w : World) : Calls Tryd.prog 23 #[.pointer none] w fun e w' => e = .returned (.pointer none) ∧ w = w' := by
  go_enter Tryd.func23, Tryd.ntmps23
  go_wp2_with (go_at_call 26; refine (none_nil _).mono ?_; rintro e w' ⟨rfl, rfl⟩)
  go_ret
  exact ⟨rfl, rfl⟩
set_option maxHeartbeats 400000 in
set_option maxRecDepth 100000 in
theorem Same_nn (w : World) : Calls Tryd.prog 24 #[.pointer none, .pointer none] w fun e w' => e = .returned (.bool true) ∧ w = w' := by
  go_enter Tryd.func24, Tryd.ntmps24
  go_wp2_with (go_at_call 26; refine (none_nil _).mono ?_; rintro e w' ⟨rfl, rfl⟩)
  go_ret
  exact ⟨rfl, rfl⟩
set_option maxHeartbeats 400000 in
set_option maxRecDepth 100000 in
theorem Same_tn (p m : Nat) (T : List Rec) (now lost : Int) (w : World) (h : NS w p m T now lost) : Calls Tryd.prog 24 #[.pointer (some ⟨p, 0, none⟩), .pointer none] w fun e w' => e = .returned (.bool false) ∧ w = w' := by
  have H := Lib.hid h
  clear h
  go_enter Tryd.func24, Tryd.ntmps24
  go_wp2_with (first | (go_at_call 26; with_reducible refine (none_nil _).mono ?_; rintro e w' ⟨rfl, rfl⟩) | (go_at_call 26; with_reducible refine (none_t _ _ _ _ _ _ H.out).mono ?_; rintro e w' ⟨rfl, rfl⟩))
  go_ret
  exact ⟨rfl, rfl⟩
theorem rows_nil (b : Nat) (many : Int) (w : World) (hB : w.heap[b]? = some (.cells #[.slice none 0 0] 45)) :
    Calls Tryd.prog 18 #[.func (.func 38) #[] #[.pointer (some ⟨b, 0, none⟩)], .slice none 0 0, .int .i64 many] w fun e w' => e = .returned (.bool true) ∧ Below w.heap.size w w' :=
  have h0 : 0 < w.heap.size := Nat.lt_of_le_of_lt (Nat.zero_le b) (Array.getElem?_eq_some_iff.1 hB).1
  rows_any b [] none none 0 0 0 0 many w (by simp) hB (SL.none h0) (SL.none h0)

/-- behind so many of the first calls -/
structure HBs (i : Nat) (s : St) : Prop where
  len : s.T.length = i
  now : 0 ≤ s.now ∧ s.now ≤ 1
  lost : s.lost = 0
  adr : ∀ r ∈ s.T, 167772160 ≤ r.addr ∧ r.addr < 167772160 + i
  one : 0 < i → hasR s.T 0 167772160 = true ∧ getR s.T 0 167772160 = ⟨0, 167772160, 1, 1, 0⟩
theorem HBs.zero : HBs 0 ⟨[], 0, 0⟩ := ⟨rfl, by simp, rfl, by simp, by simp⟩

theorem kind_base (i : Nat) (h : i < 64) : kindI (167772160 + (i : Int)) = 6 := by
  have key : ∀ j : Fin 64, kindI (167772160 + (j.1 : Int)) = 6 := by decide +kernel
  exact key ⟨i, h⟩
theorem hasR_none {T : List Rec} {f a : Int} (h : ∀ r ∈ T, r.addr ≠ a) : hasR T f a = false := by
  unfold hasR
  rw [List.any_eq_false]
  intro r hr
  simp only [atR, Bool.and_eq_true, beq_iff_eq, not_and]
  exact fun _ => h r hr
theorem filter_none {T : List Rec} {f a : Int} (h : hasR T f a = false) : (T.filter fun s => !atR f a s) = T := by
  rw [List.filter_eq_self]
  intro r hr
  unfold hasR at h
  rw [List.any_eq_false] at h
  simpa using h r hr
theorem HBs.step {i : Nat} {s : St} (h : HBs i s) (hi : i < 64) : (hearS s (i % 16 : Nat) (167772160 + (i : Int)) 1 0).1 = 0 ∧ HBs (i + 1) (hearS s (i % 16 : Nat) (167772160 + (i : Int)) 1 0).2 := by
  have ha : argB (i % 16 : Nat) (167772160 + (i : Int)) 0 = true := by
    rw [argB_iff]
    exact ⟨by omega, by omega, kind_base i hi, by omega⟩
  have hn : hasR s.T (i % 16 : Nat) (167772160 + (i : Int)) = false := hasR_none fun r hr e => by have := (h.adr r hr).2; omega
  have hl := h.len
  have h1 := h.now
  have hg := getR_not hn
  unfold hearS
  rw [ha, if_neg (by simp), if_neg (by omega), if_neg (by omega)]
  have hup : upR s.T (heardR s.T (i % 16 : Nat) (167772160 + (i : Int)) 1 0) = ⟨(i % 16 : Nat), 167772160 + (i : Int), 1, 1, 0⟩ :: s.T := by
    unfold upR heardR
    rw [hg]
    simp only [zeroR]
    rw [filter_none hn]
    rfl
  refine ⟨rfl, ?_⟩
  simp only [hup]
  refine ⟨by simp [hl], by simp, h.lost, ?_, ?_⟩
  · intro r hr
    rcases List.mem_cons.1 hr with rfl | hr
    · simp only; omega
    · have := h.adr r hr; omega
  · intro _
    by_cases h0 : i = 0
    · subst h0
      exact ⟨by simp [hasR, atR], by simp [getR, atR]⟩
    · have hone := h.one (by omega)
      have hf : atR 0 167772160 ⟨(i % 16 : Nat), 167772160 + (i : Int), 1, 1, 0⟩ = false := by simp [atR]; omega
      refine ⟨?_, ?_⟩
      · unfold hasR at hone ⊢
        rw [List.any_cons, hone.1, Bool.or_true]
      · have h2 := hone.2
        unfold getR at h2 ⊢
        rw [List.find?_cons, hf]
        exact h2

/-- the three calls behind them -/
def hb1 (s : St) : Int × St := hearS s 3 184549376 2 2147483647
def hb2 (s : St) : Int × St := hearS s 0 167772160 2 2147483647
theorem hear_old {s : St} {f a nw bad : Int} (ha : argB f a bad = true) (hn : s.now ≤ nw) (hm : nw ≤ 4611686018427387904) (hh : hasR s.T f a = true) : hearS s f a nw bad = (0, ⟨upR s.T (heardR s.T f a nw bad), nw, s.lost⟩) := by
  unfold hearS
  rw [ha, if_neg (by simp), if_neg (by omega), if_neg (by rw [hh]; simp)]
theorem up_has (T : List Rec) (r : Rec) : hasR (upR T r) r.face r.addr = true ∧ getR (upR T r) r.face r.addr = r := by
  unfold upR hasR getR
  simp [atR]
theorem up_len {T : List Rec} (r : Rec) (hA : Apart T) (h : hasR T r.face r.addr = true) : (upR T r).length = T.length := by
  unfold upR
  rw [List.length_cons]
  have key : ∀ T : List Rec, Apart T → hasR T r.face r.addr = true → (T.filter fun s => !atR r.face r.addr s).length + 1 = T.length := by
    intro T
    induction T with
    | nil => intro _ h; simp [hasR] at h
    | cons x T ih =>
      intro hA h
      unfold Apart at hA
      rw [List.pairwise_cons] at hA
      by_cases hx : atR r.face r.addr x = true
      · rw [List.filter_cons_of_neg (by simp [hx])]
        have : (T.filter fun s => !atR r.face r.addr s) = T := by
          rw [List.filter_eq_self]
          intro s hs
          have h1 := hA.1 s hs
          obtain ⟨e1, e2⟩ := atR_iff.1 hx
          cases hc : atR r.face r.addr s with
          | false => rfl
          | true =>
            obtain ⟨e3, e4⟩ := atR_iff.1 hc
            exact absurd ⟨e1.trans e3.symm, e2.trans e4.symm⟩ h1
        rw [this]
        rfl
      · rw [List.filter_cons_of_pos (by simp [hx])]
        have h2 : hasR T r.face r.addr = true := by
          unfold hasR at h ⊢
          rw [List.any_cons] at h
          simpa [hx] using h
        simp [ih hA.2 h2]
  exact key T hA h
theorem Apart.up {T : List Rec} (h : Apart T) (r : Rec) : Apart (upR T r) := by
  unfold upR Apart
  rw [List.pairwise_cons]
  refine ⟨?_, h.filter _⟩
  intro s hs ⟨e1, e2⟩
  have := (List.mem_filter.1 hs).2
  rw [atR_iff.2 ⟨e1.symm, e2.symm⟩] at this
  cases this
theorem NS.apart {W : World} {p m : Nat} {T : List Rec} {now lost : Int} (h : NS W p m T now lost) : Apart T := by
  obtain ⟨D, ho, ht⟩ := h.map
  have := ht.apart
  unfold Apart
  refine this.imp ?_
  intro a b hab ⟨e1, e2⟩
  apply hab
  unfold klR
  rw [e1, e2]
end Go.Proofs.YtahkhecfnimdbaaDoor
