/- A queue of one's own, and what lies beside it; the calls over it. -/
import Derived.Test.YtkigoihdmojpfaaK11
namespace Go.Proofs.Ytkigoihdmojpfaa
open Go.RowKit

theorem Qu.apart {W : World} {q : Nat} {F : List Nat} {S : List TR} (h : Qu W q F S) : ApartS S := by
  obtain ⟨p, m, v, L, h1, h2, h3, rfl⟩ := h
  exact h1.hs.ap.perm h2
theorem Qu.wf {W : World} {q : Nat} {F : List Nat} {S : List TR} (h : Qu W q F S) : ∀ r ∈ S, r.Wf := by
  obtain ⟨p, m, v, L, h1, h2, h3, rfl⟩ := h
  exact fun r hr => h1.hs.wf r (h2.mem_iff.2 hr)
theorem Qu.ord {W : World} {q : Nat} {F : List Nat} {S : List TR} (h : Qu W q F S) : OrdS S := by
  obtain ⟨p, m, v, L, h1, h2, h3, rfl⟩ := h
  exact h3
theorem Qu.foot_lt {W : World} {q : Nat} {F : List Nat} {S : List TR} (h : Qu W q F S) : ∀ c ∈ F, c < W.heap.size := by
  obtain ⟨p, m, v, L, h1, h2, h3, rfl⟩ := h
  intro c hc
  rcases List.mem_cons.1 hc with rfl | hc
  · exact h1.qlt
  · exact h1.hs.foot_lt c hc
theorem Qu.mem {W : World} {q : Nat} {F : List Nat} {S : List TR} (h : Qu W q F S) : q ∈ F := by
  obtain ⟨p, m, v, L, h1, h2, h3, rfl⟩ := h
  simp
/-- the same blocks, the same queue -/
theorem Qu.kept {W W' : World} {q : Nat} {F : List Nat} {S : List TR} (h : Qu W q F S) (hk : ∀ c ∈ F, W'.heap[c]? = W.heap[c]?) : Qu W' q F S := by
  obtain ⟨p, m, v, L, h1, h2, h3, rfl⟩ := h
  exact ⟨p, m, v, L, ⟨(hk q (by simp)).trans h1.box, h1.hs.kept (hk p (by simp [foot])) (hk m (by simp [foot])) (fun g hg => hk g (by simp [foot, hg])), h1.hp⟩, h2, h3, rfl⟩

/-- changes behind w0 alone -/
theorem KB.after {S : List Nat} {w0 w w' : World} (h : KB S w w') (hS : ∀ c ∈ S, w0.heap.size ≤ c) (hb : Below w0.heap.size w0 w) : Below w0.heap.size w0 w' :=
  ⟨h.os.trans hb.os, h.tape.trans hb.tape, h.output.trans hb.output, Nat.le_trans hb.size h.size, fun k hk => (h.block k (Nat.lt_of_lt_of_le hk hb.size) (fun hm => by have := hS k hm; omega)).trans (hb.block k hk)⟩
/-- a queue of one's own; blocks beside it -/
structure OQ (w0 W : World) (q : Nat) (S : List TR) (K : List (Nat × Obj)) : Prop where
  ex : ∃ F, Qu W q F S ∧ (∀ c ∈ F, w0.heap.size ≤ c) ∧ (∀ p ∈ K, p.1 ∉ F)
  bl : Below w0.heap.size w0 W
  kp : ∀ p ∈ K, W.heap[p.1]? = some p.2
section
variable {w0 W : World} {q : Nat} {S : List TR} {K : List (Nat × Obj)} (h : OQ w0 W q S K)
include h
theorem OQ.below {W' : World} (hb : Below W.heap.size W W') : OQ w0 W' q S K := by
  obtain ⟨F, h1, h2, h3⟩ := h.ex
  exact ⟨⟨F, h1.below hb, h2, h3⟩, bthen h.bl hb, fun p hp => (hb.block _ (Array.getElem?_eq_some_iff.1 (h.kp p hp)).1).trans (h.kp p hp)⟩
theorem OQ.box (o : Obj) : OQ w0 (W.alloc o) q S ((W.heap.size, o) :: K) := by
  have h' := h.below (below1 W o)
  obtain ⟨F, h1, h2, h3⟩ := h.ex
  refine ⟨⟨F, h1.below (below1 W o), h2, fun p hp => ?_⟩, h'.bl, fun p hp => ?_⟩
  · rcases List.mem_cons.1 hp with rfl | hp
    · intro hm
      have h4 := h1.foot_lt _ hm
      simp at h4
    · exact h3 p hp
  · rcases List.mem_cons.1 hp with rfl | hp
    · exact heap_alloc_new W o
    · exact h'.kp p hp
theorem OQ.sub {K' : List (Nat × Obj)} (hk : ∀ p ∈ K', p ∈ K) : OQ w0 W q S K' := by
  obtain ⟨F, h1, h2, h3⟩ := h.ex
  exact ⟨⟨F, h1, h2, fun p hp => h3 p (hk p hp)⟩, h.bl, fun p hp => h.kp p (hk p hp)⟩
theorem OQ.newF {W' : World} {S' : List TR} {F : List Nat} (_h1 : Qu W q F S) (h2 : ∀ c ∈ F, w0.heap.size ≤ c) (h3 : ∀ p ∈ K, p.1 ∉ F) (hN : QNew W W' q F S') : OQ w0 W' q S' K := by
  obtain ⟨F', g1, g2, g3⟩ := hN
  have hsz := h.bl.size
  refine ⟨⟨F', g1, fun c hc => ?_, fun p hp hm => ?_⟩, g3.after h2 h.bl, fun p hp => ?_⟩
  · rcases g2 c hc with h4 | h4
    · exact h2 c h4
    · omega
  · have h5 := (Array.getElem?_eq_some_iff.1 (h.kp p hp)).1
    rcases g2 _ hm with h4 | h4
    · exact h3 p hp h4
    · omega
  · exact (g3.block _ (Array.getElem?_eq_some_iff.1 (h.kp p hp)).1 (h3 p hp)).trans (h.kp p hp)
/-- a store into a block beside it -/
theorem OQ.setK {b : Nat} {ob ob' : Obj} {W' : World} (hK : K = (b, ob) :: K.tail) (hk : KB [b] W W') (hb : W'.heap[b]? = some ob') (hb0 : w0.heap.size ≤ b) (hne : ∀ p ∈ K.tail, p.1 ≠ b) : OQ w0 W' q S ((b, ob') :: K.tail) := by
  obtain ⟨F, h1, h2, h3⟩ := h.ex
  have hbF : b ∉ F := h3 (b, ob) (by rw [hK]; simp)
  refine ⟨⟨F, h1.kept (fun c hc => hk.block c (h1.foot_lt c hc) (fun e => hbF (by rw [← List.mem_singleton.1 e]; exact hc))), h2, fun p hp => ?_⟩, ?_, fun p hp => ?_⟩
  · rcases List.mem_cons.1 hp with rfl | hp
    · exact hbF
    · exact h3 p (by rw [hK]; exact List.mem_cons_of_mem _ hp)
  · exact hk.after (fun c hc => by rw [List.mem_singleton.1 hc]; exact hb0) h.bl
  · rcases List.mem_cons.1 hp with rfl | hp'
    · exact hb
    · have hp2 : p ∈ K := by rw [hK]; exact List.mem_cons_of_mem _ hp'
      exact (hk.block _ (Array.getElem?_eq_some_iff.1 (h.kp p hp2)).1 (by simpa using hne p hp')).trans (h.kp p hp2)
theorem OQ.qlt : q < W.heap.size := by
  obtain ⟨F, h1, _⟩ := h.ex
  exact h1.foot_lt q h1.mem
theorem OQ.q0 : w0.heap.size ≤ q := by
  obtain ⟨F, h1, h2, _⟩ := h.ex
  exact h2 q h1.mem
end

theorem New_o (w : World) : Calls Try.prog 9 #[] w fun e w' => ∃ q, e = .returned (.pointer (some ⟨q, 0, none⟩)) ∧ OQ w w' q [] [] := by
  refine (New_any w).mono ?_
  rintro e w' ⟨⟨q, p, m, h1, h2, h3, h4, h5⟩, hb⟩
  exact ⟨q, h1, ⟨⟨q :: foot p m (.slice none 0 0), ⟨p, m, _, [], h2, List.Perm.refl _, List.Pairwise.nil, rfl⟩, fun c hc => by simp [foot, Value.ownBlock] at hc; omega, fun p hp => by cases hp⟩, hb, fun p hp => by cases hp⟩⟩
/-- a new queue beside kept blocks -/
theorem New_k (w0 w : World) (K : List (Nat × Obj)) (h0 : Below w0.heap.size w0 w) (hK : ∀ p ∈ K, w.heap[p.1]? = some p.2) : Calls Try.prog 9 #[] w fun e w' => ∃ q, e = .returned (.pointer (some ⟨q, 0, none⟩)) ∧ OQ w0 w' q [] K := by
  refine (New_any w).mono ?_
  rintro e w' ⟨⟨q, p, m, h1, h2, h3, h4, h5⟩, hb⟩
  have hs := h0.size
  exact ⟨q, h1, ⟨⟨q :: foot p m (.slice none 0 0), ⟨p, m, _, [], h2, List.Perm.refl _, List.Pairwise.nil, rfl⟩, fun c hc => by simp [foot, Value.ownBlock] at hc; omega, fun x hx hm => by
    have := (Array.getElem?_eq_some_iff.1 (hK x hx)).1
    simp [foot, Value.ownBlock] at hm; omega⟩, bthen h0 hb, fun x hx => (hb.block _ (Array.getElem?_eq_some_iff.1 (hK x hx)).1).trans (hK x hx)⟩⟩
theorem Arm_q (q : Nat) (F : List Nat) (S : List TR) (r : TR) (w : World) (h : Qu w q F S) (hr : r.Wf) (hl : S.length < 10000) :
    Calls Try.prog 19 #[.pointer (some ⟨q, 0, none⟩), keyV r.kind r.addr r.len, .int .i64 r.due] w fun e w' => Did w w' q F (armS S r) (dueS S r.kind r.addr r.len).1 (dueS S r.kind r.addr r.len).2 0 e := by
  have hA := h.apart
  obtain ⟨p, m, v, L, h1, h2, h3, rfl⟩ := h
  rw [← dueS_perm h2 hA]
  by_cases hx : ∃ x ∈ L, x.kind = r.kind ∧ x.addr = r.addr ∧ x.len = r.len
  · obtain ⟨x, hx, e1, e2, e3⟩ := hx
    obtain ⟨i, hi, ei⟩ := List.mem_iff_getElem.1 hx
    have hxi : L[i]? = some x := by rw [List.getElem?_eq_getElem hi, ei]
    have := Arm_old q p m v L S i x r.due w h1 h2 h3 hxi hr.d0 hr.d1 (by rw [h2.length_eq]; exact hl)
    rw [← e1, ← e2, ← e3, dueS_some h1.hs.ap hx]
    have er : (⟨x.kind, x.addr, x.len, r.due⟩ : TR) = r := TR.ext' e1 e2 e3 rfl
    rw [er] at this
    exact this
  · have hn : ∀ x ∈ L, ¬ (x.kind = r.kind ∧ x.addr = r.addr ∧ x.len = r.len) := fun x h e => hx ⟨x, h, e⟩
    rw [dueS_none hn]
    exact Arm_new q p m v L S r w h1 h2 h3 hr hn (by rw [h2.length_eq]; exact hl)
theorem Cancel_q (q : Nat) (F : List Nat) (S : List TR) (k a n : Int) (w : World) (h : Qu w q F S) (hk : KBt k a n) (hr : rightT k a n = true) (hl : S.length < 10000) :
    Calls Try.prog 25 #[.pointer (some ⟨q, 0, none⟩), keyV k a n] w fun e w' => Did w w' q F (wo k a n S) (dueS S k a n).1 (dueS S k a n).2 0 e := by
  have hA := h.apart
  have hq := h
  obtain ⟨p, m, v, L, h1, h2, h3, rfl⟩ := h
  rw [← dueS_perm h2 hA]
  by_cases hx : ∃ x ∈ L, x.kind = k ∧ x.addr = a ∧ x.len = n
  · obtain ⟨x, hx, rfl, rfl, rfl⟩ := hx
    obtain ⟨i, hi, ei⟩ := List.mem_iff_getElem.1 hx
    have hxi : L[i]? = some x := by rw [List.getElem?_eq_getElem hi, ei]
    rw [dueS_some h1.hs.ap hx]
    exact Cancel_yes q p m v L S i x w h1 h2 h3 hxi (by rw [h2.length_eq]; exact hl)
  · have hn : ∀ x ∈ L, ¬ (x.kind = k ∧ x.addr = a ∧ x.len = n) := fun x h e => hx ⟨x, h, e⟩
    rw [dueS_none hn, wo_self (fun x hx e => hn x (h2.mem_iff.2 hx) e)]
    exact (Cancel_no q p m v L k a n w h1 hk hr hn).mono fun e w' ⟨he, hb⟩ => ⟨he, QNew.same hq hb⟩
/-- what Next tells -/
def nextV (S : List TR) : Value := match S with
  | [] => zeroT
  | x :: _ => .tuple #[keyV x.kind x.addr x.len, .int .i64 x.due, .bool true]
theorem Next_q (q : Nat) (F : List Nat) (S : List TR) (w : World) (h : Qu w q F S) (hl : S.length < 10000) :
    Calls Try.prog 26 #[.pointer (some ⟨q, 0, none⟩)] w fun e w' => e = .returned (nextV S) ∧ Below w.heap.size w w' := by
  obtain ⟨p, m, v, L, h1, h2, h3, rfl⟩ := h
  cases S with
  | nil =>
    have : L = [] := List.eq_nil_of_length_eq_zero (by rw [h2.length_eq]; rfl)
    subst this
    exact Next_empty q p m v w h1
  | cons x S => exact Next_some q p m v L x w h1 (top_of h1.hp h2 h3) (by rw [h2.length_eq]; exact hl)
/-- what Pop tells, and leaves -/
def popV (S : List TR) (now : Int) : Value := match S with
  | [] => zeroT
  | x :: _ => if now < x.due then zeroT else .tuple #[keyV x.kind x.addr x.len, .int .i64 x.due, .bool true]
def popS (S : List TR) (now : Int) : List TR := match S with
  | [] => []
  | x :: T => if now < x.due then x :: T else T
theorem Pop_q (q : Nat) (F : List Nat) (S : List TR) (now : Int) (w : World) (h : Qu w q F S) (hl : S.length < 10000) :
    Calls Try.prog 21 #[.pointer (some ⟨q, 0, none⟩), .int .i64 now] w fun e w' => e = .returned (popV S now) ∧ QNew w w' q F (popS S now) := by
  have hq := h
  cases S with
  | nil => exact (Pop_no _ 0 0 0 0 false now w (fun W hb => Next_q q F [] W (hq.below hb) hl) (.inl rfl)).mono fun e w' ⟨he, hb⟩ => ⟨he, QNew.same hq hb⟩
  | cons x S =>
    simp only [popV, popS]
    by_cases hd : now < x.due
    · rw [if_pos hd, if_pos hd]
      exact (Pop_no _ x.kind x.addr x.len x.due true now w (fun W hb => Next_q q F (x :: S) W (hq.below hb) hl) (.inr hd)).mono fun e w' ⟨he, hb⟩ => ⟨he, QNew.same hq hb⟩
    · rw [if_neg hd, if_neg hd]
      obtain ⟨p, m, v, L, h1, h2, h3, rfl⟩ := h
      exact Pop_yes q p m v L S x now w h1 h2 h3 hd (by rw [h2.length_eq]; exact hl)
theorem Len_q (q : Nat) (F : List Nat) (S : List TR) (w : World) (h : Qu w q F S) :
    Calls Try.prog 23 #[.pointer (some ⟨q, 0, none⟩)] w fun e w' => e = .returned (.int .i64 S.length) ∧ w = w' := by
  obtain ⟨p, m, v, L, h1, h2, h3, rfl⟩ := h
  rw [← h2.length_eq]
  exact Len_any q p m v L w h1
/-- the queue's cell -/
theorem Qu.c {W : World} {q : Nat} {F : List Nat} {S : List TR} (h : Qu W q F S) : ∃ p, W.cell? ⟨q, 0, none⟩ = some (.pointer (some ⟨p, 0, none⟩)) := by
  obtain ⟨p, m, v, L, h1, h2, h3, rfl⟩ := h
  exact ⟨p, h1.c⟩

section
variable {w0 W : World} {q : Nat} {S : List TR} {K : List (Nat × Obj)} (h : OQ w0 W q S K)
include h
theorem Arm_o (r : TR) (hr : r.Wf) (hl : S.length < 10000) :
    Calls Try.prog 19 #[.pointer (some ⟨q, 0, none⟩), keyV r.kind r.addr r.len, .int .i64 r.due] W fun e w' => e = .returned (.tuple #[.int .i64 (dueS S r.kind r.addr r.len).1, .bool (dueS S r.kind r.addr r.len).2, .int .i64 0]) ∧ OQ w0 w' q (armS S r) K := by
  obtain ⟨F, h1, h2, h3⟩ := h.ex
  exact (Arm_q q F S r W h1 hr hl).mono fun e w' ⟨he, hN⟩ => ⟨he, h.newF h1 h2 h3 hN⟩
theorem Cancel_o (k a n : Int) (hk : KBt k a n) (hr : rightT k a n = true) (hl : S.length < 10000) :
    Calls Try.prog 25 #[.pointer (some ⟨q, 0, none⟩), keyV k a n] W fun e w' => e = .returned (.tuple #[.int .i64 (dueS S k a n).1, .bool (dueS S k a n).2, .int .i64 0]) ∧ OQ w0 w' q (wo k a n S) K := by
  obtain ⟨F, h1, h2, h3⟩ := h.ex
  exact (Cancel_q q F S k a n W h1 hk hr hl).mono fun e w' ⟨he, hN⟩ => ⟨he, h.newF h1 h2 h3 hN⟩
theorem Pop_o (now : Int) (hl : S.length < 10000) :
    Calls Try.prog 21 #[.pointer (some ⟨q, 0, none⟩), .int .i64 now] W fun e w' => e = .returned (popV S now) ∧ OQ w0 w' q (popS S now) K := by
  obtain ⟨F, h1, h2, h3⟩ := h.ex
  exact (Pop_q q F S now W h1 hl).mono fun e w' ⟨he, hN⟩ => ⟨he, h.newF h1 h2 h3 hN⟩
theorem Next_o (hl : S.length < 10000) :
    Calls Try.prog 26 #[.pointer (some ⟨q, 0, none⟩)] W fun e w' => e = .returned (nextV S) ∧ Below W.heap.size W w' := by
  obtain ⟨F, h1, h2, h3⟩ := h.ex
  exact Next_q q F S W h1 hl
theorem Due_o (k a n : Int) (hk : KBt k a n) (hl : S.length < 10000) :
    Calls Try.prog 13 #[.pointer (some ⟨q, 0, none⟩), keyV k a n] W fun e w' => e = .returned (.tuple #[.int .i64 (dueS S k a n).1, .bool (dueS S k a n).2]) ∧ Below W.heap.size W w' := by
  obtain ⟨F, h1, h2, h3⟩ := h.ex
  exact Due_any q F S k a n W h1 hk (by omega)
theorem Len_o : Calls Try.prog 23 #[.pointer (some ⟨q, 0, none⟩)] W fun e w' => e = .returned (.int .i64 S.length) ∧ W = w' := by
  obtain ⟨F, h1, h2, h3⟩ := h.ex
  exact Len_q q F S W h1
theorem ArmArg_o (k a n d : Int) (hr : rightT k a n = false) :
    Calls Try.prog 19 #[.pointer (some ⟨q, 0, none⟩), keyV k a n, .int .i64 d] W fun e w' => e = .returned (.tuple #[.int .i64 0, .bool false, .int .i64 2]) ∧ Below W.heap.size W w' := by
  obtain ⟨F, h1, h2, h3⟩ := h.ex
  obtain ⟨p, hc⟩ := h1.c
  exact Arm_arg q p k a n d W hc hr
theorem ArmTime_o (k a n d : Int) (hr : rightT k a n = true) (hd : d < 0 ∨ 4611686018427387904 < d) :
    Calls Try.prog 19 #[.pointer (some ⟨q, 0, none⟩), keyV k a n, .int .i64 d] W fun e w' => e = .returned (.tuple #[.int .i64 0, .bool false, .int .i64 170]) ∧ Below W.heap.size W w' := by
  obtain ⟨F, h1, h2, h3⟩ := h.ex
  obtain ⟨p, hc⟩ := h1.c
  exact Arm_time q p k a n d W hc hr hd
theorem CancelArg_o (k a n : Int) (hr : rightT k a n = false) :
    Calls Try.prog 25 #[.pointer (some ⟨q, 0, none⟩), keyV k a n] W fun e w' => e = .returned (.tuple #[.int .i64 0, .bool false, .int .i64 2]) ∧ Below W.heap.size W w' := by
  obtain ⟨F, h1, h2, h3⟩ := h.ex
  obtain ⟨p, hc⟩ := h1.c
  exact Cancel_arg q p k a n W hc hr
end
end Go.Proofs.Ytkigoihdmojpfaa
