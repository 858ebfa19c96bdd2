/- Queues: Due, Next, Arm, Cancel, Pop. -/
import Derived.Test.YtkigoihdmojpfaaM3
import Derived.Test.YtkigoihdmojpfaaK7
import Derived.Test.YtkigoihdmojpfaaK8
namespace Go.Proofs.Ytkigoihdmojpfaa
open Go.RowKit

/-- a queue with these rows, in order -/
def Qu (W : World) (q : Nat) (F : List Nat) (S : List TR) : Prop := ∃ p m v L, QS W q p m v L ∧ L.Perm S ∧ OrdS S ∧ F = q :: foot p m v
theorem Qu.below {W W' : World} {q : Nat} {F : List Nat} {S : List TR} (h : Qu W q F S) (hb : Below W.heap.size W W') : Qu W' q F S := by
  obtain ⟨p, m, v, L, h1, h2⟩ := h
  exact ⟨p, m, v, L, h1.below hb, h2⟩
/-- what a call leaves -/
def QNew (w W : World) (q : Nat) (F : List Nat) (S' : List TR) : Prop := ∃ F', Qu W q F' S' ∧ (∀ c ∈ F', c ∈ F ∨ w.heap.size ≤ c) ∧ KB F w W
theorem QNew.same {w W : World} {q : Nat} {F : List Nat} {S : List TR} (h : Qu w q F S) (hb : Below w.heap.size w W) : QNew w W q F S := ⟨F, h.below hb, fun _ hc => .inl hc, KB.of_below hb⟩
theorem QNew.pre {w0 w W : World} {q : Nat} {F : List Nat} {S : List TR} (hb : Below w0.heap.size w0 w) (h : QNew w W q F S) : QNew w0 W q F S := by
  obtain ⟨F', h1, h2, h3⟩ := h
  refine ⟨F', h1, fun c hc => (h2 c hc).imp id (fun h => Nat.le_trans hb.size h), ?_⟩
  exact ⟨h3.os.trans hb.os, h3.tape.trans hb.tape, h3.output.trans hb.output, Nat.le_trans hb.size h3.size, fun k hk hn => (h3.block k (Nat.lt_of_lt_of_le hk hb.size) hn).trans (hb.block k hk)⟩
theorem QNew.post {w W W' : World} {q : Nat} {F : List Nat} {S : List TR} (h : QNew w W q F S) (hb : Below W.heap.size W W') : QNew w W' q F S := by
  obtain ⟨F', h1, h2, h3⟩ := h
  exact ⟨F', h1.below hb, h2, h3.trans (KB.of_below hb)⟩
theorem QNew.of_heaped {w Z W : World} {q p m : Nat} {v : Value} {L L1 S' : List TR} (h : QS w q p m v L) (hk : KB (foot p m v) w Z) (hh : Heaped Z W p m v L1) (hp : L1.Perm S') (ho : OrdS S') : QNew w W q (q :: foot p m v) S' := by
  obtain ⟨v', L', h1, h2, h3, h4, h5⟩ := hh
  have h6 := hk.trans h5
  refine ⟨q :: foot p m v', ⟨p, m, v', L', ⟨(h6.block q h.qlt h.qf).trans h.box, h1, h3⟩, h2.trans hp, ho, rfl⟩, fun c hc => ?_, h6.sub (fun c hc => .inl (List.mem_cons_of_mem _ hc))⟩
  simp [foot] at hc ⊢
  rcases h4 with e | ⟨g, e, hg⟩
  · rw [e] at hc
    exact .inl hc
  · rw [e] at hc
    rcases hc with h | h | h | h
    · exact .inl (.inl h)
    · exact .inl (.inr (.inl h))
    · exact .inl (.inr (.inr (.inl h)))
    · simp at h; subst h; exact .inr (Nat.le_trans hk.size hg)

theorem HS.foot_lt {W : World} {p m : Nat} {v : Value} {L : List TR} (h : HS W p m v L) : ∀ c ∈ foot p m v, c < W.heap.size := by
  intro c hc
  simp [foot] at hc
  rcases hc with rfl | rfl | hc
  · exact h.plt
  · exact h.mlt
  · obtain ⟨cur, hg⟩ := h.own hc
    exact (Array.getElem?_eq_some_iff.1 hg).1
/-- a box of a timer -/
def TBox (W : World) (B : Nat) (k a n : Int) : Prop := W.heap[B]? = some (.cells #[.int .i64 k, .int .u32 a, .int .i64 n] 29 (0, 0))
section
variable {W : World} {B : Nat} {k a n : Int} (h : TBox W B k a n)
include h
theorem TBox.lt : B < W.heap.size := (Array.getElem?_eq_some_iff.1 h).1
theorem TBox.c0 : W.cell? ⟨B, 0, none⟩ = some (.int .i64 k) := by simp [World.cell?, show W.heap[B]? = _ from h]
theorem TBox.c1 : W.cell? ⟨B, 1, none⟩ = some (.int .u32 a) := by simp [World.cell?, show W.heap[B]? = _ from h]
theorem TBox.c2 : W.cell? ⟨B, 2, none⟩ = some (.int .i64 n) := by simp [World.cell?, show W.heap[B]? = _ from h]
theorem TBox.f (o : Nat) : W.frozen? ⟨B, o, none⟩ = false := by simp [World.frozen?, show W.heap[B]? = _ from h]
theorem TBox.below {W' : World} (hb : Below W.heap.size W W') : TBox W' B k a n := (hb.block B h.lt).trans h
theorem TBox.kb {S : List Nat} {W' : World} (hb : KB S W W') (hn : B ∉ S) : TBox W' B k a n := (hb.block B h.lt hn).trans h
end
theorem TBox.new (W : World) (k a n : Int) : TBox (W.alloc (.cells #[.int .i64 k, .int .u32 a, .int .i64 n] 29)) W.heap.size k a n := heap_alloc_new W _

set_option maxRecDepth 100000 in
set_option maxHeartbeats 8000000 in
theorem Due_raw (q p m : Nat) (v : Value) (L : List TR) (k a n : Int) (w : World) (h : QS w q p m v L) (hk : KBt k a n) (_hl : L.length < 100000) (c : Int) (b : Bool) (hd : dueS L k a n = (c, b)) :
    Calls Try.prog 13 #[.pointer (some ⟨q, 0, none⟩), keyV k a n] w fun e w' => e = .returned (.tuple #[.int .i64 c, .bool b]) ∧ Below w.heap.size w w' := by
  have HX : ∀ X, X = w.alloc (.cells #[.int .i64 k, .int .u32 a, .int .i64 n] 29) → QS X q p m v L ∧ TBox X w.heap.size k a n ∧ Below w.heap.size w X := by
    intro X e
    subst e
    exact ⟨h.below (below1 _ _), TBox.new _ _ _ _, below1 _ _⟩
  have hap := h.hs.ap
  obtain ⟨base, g, cap, hv, _⟩ := h.hs.sl
  clear h
  unfold keyV
  go_enter Try.func13, Try.ntmps13
  go_upto_region 1 with fail
  generalize w.alloc (.cells #[.int .i64 k, .int .u32 a, .int .i64 n] 29) = X at *
  obtain ⟨hQ, hT, hB⟩ := HX X rfl
  have HQ := Lib.hid hQ
  have HB := Lib.hid hB
  have e0 := hQ.c
  have e1 := hQ.hs.c0
  have e2 := hQ.hs.c1
  have b0 := hT.c0
  have b1 := hT.c1
  have b2 := hT.c2
  go_upto_region 3 with (go_at_call 35; (with_reducible refine (none_t _ _ _ HQ.out.c).mono ?_); rintro e w' ⟨rfl, rfl⟩)
  by_cases hx : ∃ r ∈ L, r.kind = k ∧ r.addr = a ∧ r.len = n
  · obtain ⟨r, hr, rfl, rfl, rfl⟩ := hx
    obtain ⟨i, hi, ei⟩ := List.mem_iff_getElem.1 hr
    have hri : L[i]? = some r := by rw [List.getElem?_eq_getElem hi, ei]
    have hlk := HS.look_some (W := X.drew) (hQ.hs.below (Below.refl _ X).drew) hri
    rw [dueS_some hap hr] at hd
    cases hd
    obtain ⟨base, g, cap, rfl, _, _, hS, _⟩ := hQ.hs.sl
    obtain ⟨rfl, y0, y1, y2, y3⟩ := hS.row i r hri
    rw [Nat.zero_add] at y3
    have i0 : (0 : Int) ≤ (i : Int) := by omega
    have i1 : (i : Int) < (L.length : Int) := by omega
    simp only [keyV] at hlk
    clear HX hQ hT hB hap hS hri hr ei y0 y1 y2 hk
    go_region_held3 (fun w' => w'.cell? ⟨q, 0, none⟩ = some (.pointer (some ⟨p, 0, none⟩)) ∧ w'.cell? ⟨p, 1, none⟩ = some (.map (some m)) ∧ w'.cell? ⟨w.heap.size, 0, none⟩ = some (.int .i64 r.kind) ∧ w'.cell? ⟨w.heap.size, 1, none⟩ = some (.int .u32 r.addr) ∧ w'.cell? ⟨w.heap.size, 2, none⟩ = some (.int .i64 r.len))
      (go_keep) (fail)
    go_wp2_with fail
    exact bodyPost_ret (v := .tuple #[.int .i64 r.due, .bool true]) (by simp [results, Try.results13, go_sem]) rfl ⟨rfl, HB.out.drew⟩
  · have hno : ∀ r ∈ L, ¬ (r.kind = k ∧ r.addr = a ∧ r.len = n) := fun r hr e => hx ⟨r, hr, e⟩
    have hlk := HS.look_none (W := X.drew) (hQ.hs.below (Below.refl _ X).drew) hk hno
    rw [dueS_none hno] at hd
    cases hd
    simp only [keyV] at hlk
    clear HX hQ hT hB hap hno hx hk
    go_region_held3 (fun w' => w'.cell? ⟨q, 0, none⟩ = some (.pointer (some ⟨p, 0, none⟩)) ∧ w'.cell? ⟨p, 1, none⟩ = some (.map (some m)) ∧ w'.cell? ⟨w.heap.size, 0, none⟩ = some (.int .i64 k) ∧ w'.cell? ⟨w.heap.size, 1, none⟩ = some (.int .u32 a) ∧ w'.cell? ⟨w.heap.size, 2, none⟩ = some (.int .i64 n))
      (go_keep) (fail)
    go_wp2_with fail
    exact bodyPost_ret (v := .tuple #[.int .i64 0, .bool false]) (by simp [results, Try.results13, go_sem]) rfl ⟨rfl, HB.out.drew⟩
theorem dueS_perm {L S : List TR} (hp : L.Perm S) (hA : ApartS S) (k a n : Int) : dueS L k a n = dueS S k a n := by
  by_cases hx : ∃ r ∈ S, r.kind = k ∧ r.addr = a ∧ r.len = n
  · obtain ⟨r, hr, rfl, rfl, rfl⟩ := hx
    rw [dueS_some hA hr, dueS_some (hA.perm hp.symm) (hp.mem_iff.2 hr)]
  · rw [dueS_none (fun r hr e => hx ⟨r, hr, e⟩), dueS_none (fun r hr e => hx ⟨r, hp.mem_iff.1 hr, e⟩)]
theorem Due_any (q : Nat) (F : List Nat) (S : List TR) (k a n : Int) (w : World) (h : Qu w q F S) (hk : KBt k a n) (hl : S.length < 100000) :
    Calls Try.prog 13 #[.pointer (some ⟨q, 0, none⟩), keyV k a n] w fun e w' => e = .returned (.tuple #[.int .i64 (dueS S k a n).1, .bool (dueS S k a n).2]) ∧ Below w.heap.size w w' := by
  obtain ⟨p, m, v, L, h1, h2, h3, rfl⟩ := h
  exact Due_raw q p m v L k a n w h1 hk (by rw [h2.length_eq]; exact hl) _ _ (dueS_perm h2 (h1.hs.ap.perm h2) k a n)

set_option maxRecDepth 100000 in
set_option maxHeartbeats 8000000 in
theorem Arm_arg (q p : Nat) (k a n d : Int) (w : World) (h : w.cell? ⟨q, 0, none⟩ = some (.pointer (some ⟨p, 0, none⟩))) (hr : rightT k a n = false) :
    Calls Try.prog 19 #[.pointer (some ⟨q, 0, none⟩), keyV k a n, .int .i64 d] w fun e w' => e = .returned (.tuple #[.int .i64 0, .bool false, .int .i64 2]) ∧ Below w.heap.size w w' := by
  have hq := World.block_lt_of_cell? w _ h
  have HC := Lib.hid (fun W => (CheckT_any k a n W))
  unfold chkT at HC
  rw [hr] at HC
  unfold keyV at HC ⊢
  have hc := fun o => (cellL (below1 w o) h)
  have HQ := Lib.hid hc
  clear h hr hc
  go_enter Try.func19, Try.ntmps19
  go_wp2_with fail
  refine wp_scope_fwd 0 rfl ?_
  go_wp2_with (first | (go_at_call 35; (with_reducible refine (none_t _ _ _ (HQ.out _)).mono ?_); rintro e w' ⟨rfl, rfl⟩) | (go_at_call 16; (with_reducible refine (HC.out _).mono ?_); rintro e w2 ⟨rfl, hb⟩; have HB := Lib.hid hb; clear hb))
  go_step3
  refine ⟨rfl, ?_⟩
  go_wp2
  rw [Exit.noGoto_ret]
  exact bodyPost_ret (v := .tuple #[.int .i64 0, .bool false, .int .i64 2]) (by simp [results, Try.results19, go_sem]) rfl ⟨rfl, bthen (below1 _ _) HB.out⟩
set_option maxRecDepth 100000 in
set_option maxHeartbeats 8000000 in
theorem Arm_nil (k a n d : Int) (w : World) :
    Calls Try.prog 19 #[.pointer none, keyV k a n, .int .i64 d] w fun e w' => e = .returned (.tuple #[.int .i64 0, .bool false, .int .i64 1]) ∧ Below w.heap.size w w' := by
  unfold keyV
  go_enter Try.func19, Try.ntmps19
  go_wp2_with fail
  refine wp_scope_fwd 0 rfl ?_
  go_wp2_with (go_at_call 35; (with_reducible refine (none_nil _).mono ?_); rintro e w' ⟨rfl, rfl⟩)
  go_step3
  refine ⟨rfl, ?_⟩
  go_wp2
  rw [Exit.noGoto_ret]
  exact bodyPost_ret (v := .tuple #[.int .i64 0, .bool false, .int .i64 1]) (by simp [results, Try.results19, go_sem]) rfl ⟨rfl, below1 _ _⟩
set_option maxRecDepth 100000 in
set_option maxHeartbeats 8000000 in
theorem Arm_time (q p : Nat) (k a n d : Int) (w : World) (h : w.cell? ⟨q, 0, none⟩ = some (.pointer (some ⟨p, 0, none⟩))) (hr : rightT k a n = true) (hd : d < 0 ∨ 4611686018427387904 < d) :
    Calls Try.prog 19 #[.pointer (some ⟨q, 0, none⟩), keyV k a n, .int .i64 d] w fun e w' => e = .returned (.tuple #[.int .i64 0, .bool false, .int .i64 170]) ∧ Below w.heap.size w w' := by
  have hq := World.block_lt_of_cell? w _ h
  have HC := Lib.hid (fun W => (CheckT_any k a n W))
  unfold chkT at HC
  rw [hr] at HC
  unfold keyV at HC ⊢
  have hc := fun o => (cellL (below1 w o) h)
  have HQ := Lib.hid hc
  clear h hr hc
  by_cases h0 : d < 0
  · have t1 : decide (d < 0) = true := by simp [h0]
    clear h0 hd
    go_enter Try.func19, Try.ntmps19
    go_wp2_with fail
    refine wp_scope_fwd 0 rfl ?_
    go_wp2_with (first | (go_at_call 35; (with_reducible refine (none_t _ _ _ (HQ.out _)).mono ?_); rintro e w' ⟨rfl, rfl⟩) | (go_at_call 16; (with_reducible refine (HC.out _).mono ?_); rintro e w2 ⟨rfl, hb⟩; have HB := Lib.hid hb; clear hb))
    go_step3
    refine ⟨rfl, ?_⟩
    go_wp2
    rw [Exit.noGoto_ret]
    exact bodyPost_ret (v := .tuple #[.int .i64 0, .bool false, .int .i64 170]) (by simp [results, Try.results19, go_sem]) rfl ⟨rfl, bthen (below1 _ _) HB.out⟩
  · have t1 : decide (d < 0) = false := by simp; omega
    have t2 : decide (4611686018427387904 < d) = true := by simp; omega
    clear h0 hd
    go_enter Try.func19, Try.ntmps19
    go_wp2_with fail
    refine wp_scope_fwd 0 rfl ?_
    go_wp2_with (first | (go_at_call 35; (with_reducible refine (none_t _ _ _ (HQ.out _)).mono ?_); rintro e w' ⟨rfl, rfl⟩) | (go_at_call 16; (with_reducible refine (HC.out _).mono ?_); rintro e w2 ⟨rfl, hb⟩; have HB := Lib.hid hb; clear hb))
    go_step3
    refine ⟨rfl, ?_⟩
    go_wp2
    rw [Exit.noGoto_ret]
    exact bodyPost_ret (v := .tuple #[.int .i64 0, .bool false, .int .i64 170]) (by simp [results, Try.results19, go_sem]) rfl ⟨rfl, bthen (below1 _ _) HB.out⟩

/-- another due put -/
theorem HS.setd {W : World} {p m g cap i : Nat} {L : List TR} {x : TR} (d : Int) (h : HS W p m (.slice (some ⟨g, 0, none⟩) L.length cap) L) (hx : L[i]? = some x) (d0 : 0 ≤ d) (d1 : d ≤ 4611686018427387904) :
    HS (W.setCell ⟨g, i * 4 + 3, none⟩ (.int .i64 d)) p m (.slice (some ⟨g, 0, none⟩) L.length cap) (L.set i ⟨x.kind, x.addr, x.len, d⟩) ∧ KB [g] W (W.setCell ⟨g, i * 4 + 3, none⟩ (.int .i64 d)) := by
  have hi := (List.getElem?_eq_some_iff.1 hx).1
  obtain ⟨h1, h2⟩ := h.row.stored (i * 4 + 3) (.int .i64 d)
  rw [tCs_setd d hx] at h1
  obtain ⟨D, ho, ht⟩ := h.map
  have hw := h.wf x (List.mem_of_getElem? hx)
  have hmem : ∀ r ∈ L.set i ⟨x.kind, x.addr, x.len, d⟩, r ∈ L ∨ r = ⟨x.kind, x.addr, x.len, d⟩ := fun r hr => List.mem_or_eq_of_mem_set hr
  refine ⟨HS.of ((h2.block p h.plt (fun e => h.pg (g := g) rfl (Option.some.inj e))).trans h.box) (by rw [List.length_set]; exact h1) (ho.kept h2 (fun e => h.mg (g := g) rfl (Option.some.inj e))) (Tab.due ht hx rfl (fun _ _ _ => rfl)) (fun r hr => ?_) ?_, KB.of_grown h2 (fun k e => by cases e; simp)⟩
  · rcases hmem r hr with h' | rfl
    · exact h.wf r h'
    · exact ⟨hw.right, hw.a0, hw.a1, d0, d1⟩
  · have ha := h.ap
    unfold ApartS at ha ⊢
    rw [List.pairwise_iff_getElem] at ha ⊢
    obtain ⟨hil, ex⟩ := List.getElem?_eq_some_iff.1 hx
    intro s t hs ht hst
    have key : ∀ s (hs : s < (L.set i ⟨x.kind, x.addr, x.len, d⟩).length), ∃ hs' : s < L.length, (L.set i ⟨x.kind, x.addr, x.len, d⟩)[s].kind = L[s].kind ∧ (L.set i ⟨x.kind, x.addr, x.len, d⟩)[s].addr = L[s].addr ∧ (L.set i ⟨x.kind, x.addr, x.len, d⟩)[s].len = L[s].len := by
      intro s hs
      have hs' : s < L.length := by simpa using hs
      refine ⟨hs', ?_⟩
      rw [List.getElem_set]
      split
      · next e => subst e; subst ex; exact ⟨rfl, rfl, rfl⟩
      · exact ⟨rfl, rfl, rfl⟩
    obtain ⟨s1, k1, k2, k3⟩ := key s hs
    obtain ⟨t1, j1, j2, j3⟩ := key t ht
    rw [k1, k2, k3, j1, j2, j3]
    exact ha s t s1 t1 hst

/-- what Arm, Cancel leave -/
def Did (w w' : World) (q : Nat) (F : List Nat) (S' : List TR) (was : Int) (had : Bool) (er : Int) (e : Ending) : Prop :=
  e = .returned (.tuple #[.int .i64 was, .bool had, .int .i64 er]) ∧ QNew w w' q F S'

set_option maxRecDepth 100000 in
set_option maxHeartbeats 8000000 in
theorem Arm_old (q p m : Nat) (v : Value) (L S : List TR) (i : Nat) (x : TR) (d : Int) (w : World) (h : QS w q p m v L) (hp : L.Perm S) (hO : OrdS S) (hx : L[i]? = some x) (d0 : 0 ≤ d) (d1 : d ≤ 4611686018427387904) (hl : L.length < 10000) :
    Calls Try.prog 19 #[.pointer (some ⟨q, 0, none⟩), keyV x.kind x.addr x.len, .int .i64 d] w fun e w' => Did w w' q (q :: foot p m v) (armS S ⟨x.kind, x.addr, x.len, d⟩) x.due true 0 e := by
  have HX : ∀ X, X = w.alloc (.cells #[.int .i64 x.kind, .int .u32 x.addr, .int .i64 x.len] 29) → QS X q p m v L ∧ TBox X w.heap.size x.kind x.addr x.len ∧ Below w.heap.size w X := by
    intro X e
    subst e
    exact ⟨h.below (below1 _ _), TBox.new _ _ _ _, below1 _ _⟩
  have hwx := h.hs.wf x (List.mem_of_getElem? hx)
  have HC := Lib.hid (fun W => (CheckT_any x.kind x.addr x.len W))
  unfold chkT at HC
  rw [hwx.right] at HC
  have Hxx := Lib.hid hx
  have Hp := Lib.hid hp
  have HO := Lib.hid hO
  have H0 := Lib.hid h
  have t1 : decide (d < 0) = false := by simp; omega
  have t2 : decide (4611686018427387904 < d) = false := by simp; omega
  have hil := (List.getElem?_eq_some_iff.1 hx).1
  clear h hx hp hO
  unfold keyV at HC ⊢
  go_enter Try.func19, Try.ntmps19
  go_wp2_with fail
  go_step3
  go_upto_region 2 with fail
  generalize w.alloc (.cells #[.int .i64 x.kind, .int .u32 x.addr, .int .i64 x.len] 29) = X at *
  obtain ⟨hQ, hT, hB⟩ := HX X rfl
  have HQ := Lib.hid hQ
  have HT := Lib.hid hT
  have HB := Lib.hid hB
  have b0 := hT.c0
  have b1 := hT.c1
  have b2 := hT.c2
  clear HX hQ hT hB
  go_upto_region 7 with (first | (go_at_call 35; (with_reducible refine (none_t _ _ _ HQ.out.c).mono ?_); rintro e w' ⟨rfl, rfl⟩) | (go_at_call 16; (with_reducible refine (HC.out _).mono ?_); rintro e w2 ⟨rfl, hb⟩; have HB2 := Lib.hid hb; clear hb))
  have HQ2 := Lib.hid ((HQ.out.below HB2.out).below (Below.refl _ w2).drew)
  have hQ2 := HQ2.out
  have hT2 := (HT.out.below HB2.out).below (Below.refl _ w2).drew
  have hlk := hQ2.hs.look_some Hxx.out
  obtain ⟨base, g, cap, rfl, _, _, hS, _⟩ := hQ2.hs.sl
  obtain ⟨rfl, y0, y1, y2, y3⟩ := hS.row i x Hxx.out
  rw [Nat.zero_add] at y3
  have e0 : w2.cell? ⟨q, 0, none⟩ = _ := hQ2.c
  have e1 : w2.cell? ⟨p, 0, none⟩ = _ := hQ2.hs.c0
  have e2 : w2.cell? ⟨p, 1, none⟩ = _ := hQ2.hs.c1
  have y3' : w2.cell? ⟨g, i * 4 + 3, none⟩ = _ := y3
  have fz : w2.frozen? ⟨g, i * 4 + 3, none⟩ = false := hQ2.hs.row.frozenAt (i * 4 + 3)
  clear b0 b1 b2
  have b0 : w2.cell? ⟨w.heap.size, 0, none⟩ = _ := hT2.c0
  have b1 : w2.cell? ⟨w.heap.size, 1, none⟩ = _ := hT2.c1
  have b2 : w2.cell? ⟨w.heap.size, 2, none⟩ = _ := hT2.c2
  have i0 : (0 : Int) ≤ (i : Int) := by omega
  have i1 : (i : Int) < (L.length : Int) := by omega
  have hgp : g ≠ p := fun e => hQ2.hs.pg (g := g) rfl e.symm
  have hgq : g ≠ q := fun e => hQ2.qg (g := g) rfl e.symm
  have hpg : p ≠ g := Ne.symm hgp
  have hqg : q ≠ g := Ne.symm hgq
  simp only [keyV] at hlk
  clear hQ2 hT2 hS y0 y1 y2 y3
  go_region_held3 (fun w' => w'.cell? ⟨q, 0, none⟩ = some (.pointer (some ⟨p, 0, none⟩)) ∧ w'.cell? ⟨p, 1, none⟩ = some (.map (some m)) ∧ w'.cell? ⟨w.heap.size, 0, none⟩ = some (.int .i64 x.kind) ∧ w'.cell? ⟨w.heap.size, 1, none⟩ = some (.int .u32 x.addr) ∧ w'.cell? ⟨w.heap.size, 2, none⟩ = some (.int .i64 x.len))
    (go_keep) (fail)
  go_upto_region 11 with fail
  have HZ : ∀ Z, Z = (w2.setCell ⟨g, i * 4 + 3, none⟩ (.int .i64 d)).drew → HS Z p m (.slice (some ⟨g, 0, none⟩) L.length cap) (L.set i ⟨x.kind, x.addr, x.len, d⟩) ∧ KB [g] w2 Z := by
    intro Z e
    subst e
    obtain ⟨h1, h2⟩ := HS.setd d (HQ.out.below HB2.out).hs Hxx.out d0 d1
    exact ⟨h1.below (Below.refl _ _).drew, h2.drew⟩
  generalize (w2.setCell ⟨g, i * 4 + 3, none⟩ (.int .i64 d)).drew = Z at *
  obtain ⟨hZ, hK⟩ := HZ Z rfl
  have k0 : Z.cell? ⟨q, 0, none⟩ = _ := hK.cell e0 (by simp [hqg])
  have HFx := Lib.hid (Fix_any p m _ _ i Z hZ (by simpa using hil) (by simp; omega) (by rw [List.length_set]; exact HQ.out.hp.ax_set weakT (Nat.le_refl _) hil _))
  have HK := Lib.hid (((KB.of_below (S := [g]) (bthen HB.out HB2.out)).trans hK).sub (S' := foot p m (.slice (some ⟨g, 0, none⟩) L.length cap)) (fun c hc => .inl (by simp at hc; simp [foot, Value.ownBlock, hc])))
  clear HZ hZ hK e0 e1 e2 y3' fz b0 b1 b2 hlk
  go_wp2_with (go_at_call 39; (with_reducible refine HFx.out.mono ?_); rintro e w4 ⟨rfl, hh⟩; have HH := Lib.hid hh; clear hh)
  rw [Exit.noGoto_ret]
  refine bodyPost_ret (v := .tuple #[.int .i64 x.due, .bool true, .int .i64 0]) (by simp [results, Try.results19, go_sem]) rfl ⟨rfl, ?_⟩
  exact QNew.of_heaped H0.out HK.out HH.out (armS_old Hp.out (H0.out.hs.ap.perm Hp.out) Hxx.out ⟨rfl, rfl, rfl⟩) (armS_ord HO.out _)

set_option maxRecDepth 100000 in
set_option maxHeartbeats 8000000 in
theorem Arm_new (q p m : Nat) (v : Value) (L S : List TR) (x : TR) (w : World) (h : QS w q p m v L) (hp : L.Perm S) (hO : OrdS S) (hx : x.Wf) (hn : ∀ r ∈ L, ¬ (r.kind = x.kind ∧ r.addr = x.addr ∧ r.len = x.len)) (hl : L.length < 10000) :
    Calls Try.prog 19 #[.pointer (some ⟨q, 0, none⟩), keyV x.kind x.addr x.len, .int .i64 x.due] w fun e w' => Did w w' q (q :: foot p m v) (armS S x) 0 false 0 e := by
  have HX : ∀ X, X = w.alloc (.cells #[.int .i64 x.kind, .int .u32 x.addr, .int .i64 x.len] 29) → QS X q p m v L ∧ TBox X w.heap.size x.kind x.addr x.len ∧ Below w.heap.size w X := by
    intro X e
    subst e
    exact ⟨h.below (below1 _ _), TBox.new _ _ _ _, below1 _ _⟩
  have HC := Lib.hid (fun W => (CheckT_any x.kind x.addr x.len W))
  unfold chkT at HC
  rw [hx.right] at HC
  have Hxx := Lib.hid hx
  have Hn := Lib.hid hn
  have Hp := Lib.hid hp
  have HO := Lib.hid hO
  have H0 := Lib.hid h
  have t1 : decide (x.due < 0) = false := by have := hx.d0; simp; omega
  have t2 : decide (4611686018427387904 < x.due) = false := by have := hx.d1; simp; omega
  clear h hx hn hp hO
  unfold keyV at HC ⊢
  go_enter Try.func19, Try.ntmps19
  go_wp2_with fail
  go_step3
  go_upto_region 2 with fail
  generalize w.alloc (.cells #[.int .i64 x.kind, .int .u32 x.addr, .int .i64 x.len] 29) = X at *
  obtain ⟨hQ, hT, hB⟩ := HX X rfl
  have HQ := Lib.hid hQ
  have HT := Lib.hid hT
  have HB := Lib.hid hB
  have b0 := hT.c0
  have b1 := hT.c1
  have b2 := hT.c2
  clear HX hQ hT hB
  go_upto_region 7 with (first | (go_at_call 35; (with_reducible refine (none_t _ _ _ HQ.out.c).mono ?_); rintro e w' ⟨rfl, rfl⟩) | (go_at_call 16; (with_reducible refine (HC.out _).mono ?_); rintro e w2 ⟨rfl, hb⟩; have HB2 := Lib.hid hb; clear hb))
  have HQ2 := Lib.hid ((HQ.out.below HB2.out).below (Below.refl _ w2).drew)
  have hQ2 := HQ2.out
  have hT2 := (HT.out.below HB2.out).below (Below.refl _ w2).drew
  have hlk := hQ2.hs.look_none Hxx.out.kb Hn.out
  have e0 : w2.cell? ⟨q, 0, none⟩ = _ := hQ2.c
  have e2 : w2.cell? ⟨p, 1, none⟩ = _ := hQ2.hs.c1
  clear b0 b1 b2
  have b0 : w2.cell? ⟨w.heap.size, 0, none⟩ = _ := hT2.c0
  have b1 : w2.cell? ⟨w.heap.size, 1, none⟩ = _ := hT2.c1
  have b2 : w2.cell? ⟨w.heap.size, 2, none⟩ = _ := hT2.c2
  simp only [keyV] at hlk
  clear hQ2 hT2
  go_region_held3 (fun w' => w'.cell? ⟨q, 0, none⟩ = some (.pointer (some ⟨p, 0, none⟩)) ∧ w'.cell? ⟨p, 1, none⟩ = some (.map (some m)) ∧ w'.cell? ⟨w.heap.size, 0, none⟩ = some (.int .i64 x.kind) ∧ w'.cell? ⟨w.heap.size, 1, none⟩ = some (.int .u32 x.addr) ∧ w'.cell? ⟨w.heap.size, 2, none⟩ = some (.int .i64 x.len))
    (go_keep) (fail)
  go_upto_region 13 with fail
  have hPu := hPush_any p m v L x w2.drew.drew (HQ2.out.below (Below.refl _ _).drew).hs Hxx.out Hn.out (by omega) HQ2.out.hp
  unfold rowV at hPu
  have HPu := Lib.hid hPu
  have HNf : Hid (w.heap.size ∉ foot p m v) := Lib.hid (fun hm => by have := H0.out.hs.foot_lt _ hm; omega)
  clear hPu hlk
  go_region_held3 (fun w' => w'.cell? ⟨q, 0, none⟩ = some (.pointer (some ⟨p, 0, none⟩)) ∧ w'.cell? ⟨w.heap.size, 0, none⟩ = some (.int .i64 x.kind) ∧ w'.cell? ⟨w.heap.size, 1, none⟩ = some (.int .u32 x.addr) ∧ w'.cell? ⟨w.heap.size, 2, none⟩ = some (.int .i64 x.len))
    (first | exact ⟨k0, k1, k2, k3⟩ | go_keep)
    ((go_at_call 40; (with_reducible refine HPu.out.mono ?_); rintro e w4 ⟨rfl, hh⟩; have HH := Lib.hid hh; have hhk := (by obtain ⟨_, _, _, _, _, _, h5⟩ := hh; exact h5 : KB (foot p m v) w2.drew.drew w4); have k0 := hhk.cell e0 HQ2.out.qf; have k1 := hhk.cell b0 HNf.out; have k2 := hhk.cell b1 HNf.out; have k3 := hhk.cell b2 HNf.out; clear hh hhk))
  go_wp2_with fail
  rw [Exit.noGoto_ret]
  refine bodyPost_ret (v := .tuple #[.int .i64 0, .bool false, .int .i64 0]) (by simp [results, Try.results19, go_sem]) rfl ⟨rfl, ?_⟩
  exact QNew.of_heaped H0.out (KB.of_below (bthen HB.out HB2.out)).drew.drew HH.out (armS_new Hp.out (fun r hr => Hn.out r (Hp.out.mem_iff.2 hr))) (armS_ord HO.out _)
end Go.Proofs.Ytkigoihdmojpfaa
