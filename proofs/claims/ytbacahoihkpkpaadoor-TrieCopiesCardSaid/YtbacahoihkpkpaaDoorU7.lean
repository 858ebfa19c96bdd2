/- A trie and the reference's list beside it; Put and Take by both. -/
import Derived.Test.YtbacahoihkpkpaaDoorU5
import Derived.Test.YtbacahoihkpkpaaDoorU6
namespace Go.Proofs.YtbacahoihkpkpaaDoor
open Go.RowKit Go.Shelf Go.Maps

/-- a trie of one's own, and the reference's list of its rows -/
structure PW (w0 W : World) (q : Nat) (t : TT) (g : Nat) (v : Value) : Prop where
  tw : TW w0 W q t
  rt : RT W g v t.rows
  ap : g ∉ q :: t.blocks
theorem PW.below {w0 W W' : World} {q g : Nat} {t : TT} {v : Value} (h : PW w0 W q t g v) (hb : Below W.heap.size W W') : PW w0 W' q t g v := ⟨h.tw.below hb, h.rt.below hb, h.ap⟩
theorem PW.new (w : World) (hR : RelsAt w) : PW w (w.alloc (.cells #[.pointer none, .int .i64 0, .bool true] 84)) w.heap.size .nil 0 (.agg #[.slice none 0 0]) :=
  ⟨TW.new w hR, RT.nil (by simp), by
    have := World.block_lt_of_cell? w _ hR.c0
    simp [TT.blocks]
    omega⟩
/-- what a call by both leaves -/
structure Acted (w0 w w' : World) (q : Nat) (t : TT) (g : Nat) (q' : Nat) (t' : TT) (g' : Nat) (v' : Value) : Prop where
  pw : PW w0 w' q' t' g' v'
  kb : KB (q :: t.blocks) w w'
  nb : ∀ c ∈ q' :: t'.blocks, c ∈ q :: t.blocks ∨ w.heap.size ≤ c
  ng : g' = g ∨ w.heap.size ≤ g'

/-- the reference's answer -/
def RAns (W w' : World) (g : Nat) (o : Int) (h : Bool) (e : Int) (L' : List (Key × Int)) (en : Ending) : Prop :=
  ∃ v' g', en = .returned (.tuple #[v', .int .i64 o, .bool h, .int .i64 e]) ∧ RT w' g' v' L' ∧ (g' = g ∨ W.heap.size ≤ g') ∧ Below W.heap.size W w'
/-- the trie's answer -/
def TAns (W w' : World) (q : Nat) (t : TT) (o : Int) (h : Bool) (e : Int) (L' : List (Key × Int)) (en : Ending) : Prop :=
  en = .returned (.tuple #[.int .i64 o, .bool h, .int .i64 e]) ∧ ∃ t', Went W w' q t t' ∧ t'.rows = L'

def PutB (w0 : World) (q : Nat) (t : TT) (g : Nat) (v : Value) (a n x o : Int) (h : Bool) (e : Int) (L' : List (Key × Int)) : Prop :=
  (∀ W, RT W g v t.rows → Calls Tryd.prog 50 #[v, .agg #[.int .u32 a, .int .i64 n], .int .i64 x] W fun en w' => RAns W w' g o h e L' en) ∧
  (∀ W, TW w0 W q t → Calls Tryd.prog 14 #[.pointer (some ⟨q, 0, none⟩), .agg #[.int .u32 a, .int .i64 n], .int .i64 x] W fun en w' => TAns W w' q t o h e L' en)
def TakeB (w0 : World) (q : Nat) (t : TT) (g : Nat) (v : Value) (a n o : Int) (h : Bool) (e : Int) (L' : List (Key × Int)) : Prop :=
  (∀ W, RT W g v t.rows → Calls Tryd.prog 51 #[v, .agg #[.int .u32 a, .int .i64 n]] W fun en w' => RAns W w' g o h e L' en) ∧
  (∀ W, TW w0 W q t → Calls Tryd.prog 19 #[.pointer (some ⟨q, 0, none⟩), .agg #[.int .u32 a, .int .i64 n]] W fun en w' => TAns W w' q t o h e L' en)

theorem getR_some {t : TT} (h : t.WF) {p : Key} {u : Int} (hg : t.get p = some u) : ∃ i, idxR t.rows p = some i ∧ t.rows[i]? = some (p, u) := by
  obtain ⟨i, hi, hx⟩ := List.mem_iff_getElem.1 ((TT.get_iff h _ _).1 hg)
  have hx' : t.rows[i]? = some (p, u) := by rw [List.getElem?_eq_getElem hi, hx]
  exact ⟨i, idxR_of h.rows hx', hx'⟩
theorem getR_none {t : TT} (h : t.WF) {p : Key} (hg : t.get p = none) : idxR t.rows p = none := by
  cases hi : idxR t.rows p with
  | none => rfl
  | some i =>
    obtain ⟨v, hv⟩ := idxR_some hi
    exact absurd (List.mem_of_getElem? hv) (get_no h hg v)

theorem putB_ex (w0 : World) (q : Nat) (t : TT) (g : Nat) (v : Value) (a n x : Int) (hw : t.WF) (a0 : 0 ≤ a) (a1 : a < 4294967296) (hl : t.rows.length < 500) :
    ∃ o h e L', PutB w0 q t g v a n x o h e L' ∧ L'.length ≤ t.rows.length + 1 := by
  cases hr : rightB a n with
  | false =>
    refine ⟨0, false, 2, t.rows, ⟨fun W hS => ?_, fun W hT => ?_⟩, by omega⟩
    · exact (rPut_arg v g t.rows a n x W hS a0 a1 hr).mono fun e w' ⟨h1, h2, h3⟩ => ⟨_, _, h1, h2, .inl rfl, h3⟩
    · exact (Put_arg q t a n x W hT.st hr).mono fun e w' ⟨h1, h2⟩ => ⟨h1, t, Went.refl hT.st h2, rfl⟩
  | true =>
    obtain ⟨e1, e2, e3⟩ := ka_bs a0 a1 hr
    revert e1 e2 e3
    generalize bs a n = p
    intro e1 e2 e3
    subst e1 e2
    cases hg : t.get p with
    | some u =>
      obtain ⟨i, hi, hx⟩ := getR_some hw hg
      refine ⟨u, true, 0, t.rows.set i (p, x), ⟨fun W hS => ?_, fun W hT => ?_⟩, by rw [List.length_set]; omega⟩
      · exact (rPut_old v g t.rows (ka p) p.length x i p u W hS (by omega) a0 a1 hr (by rw [atI_key e3]; exact hi) hx).mono fun e w' ⟨⟨v', g', h1, h2, h3⟩, h4⟩ => ⟨_, _, h1, h2, .inr h3, h4⟩
      · exact (Put_old q t p u x W hT.st hT.rel e3 hg).mono fun e w' ⟨h1, t', h2, h3⟩ => ⟨h1, t', h2, putR_set hw h2.st.wf hx h3⟩
    | none =>
      refine ⟨0, false, 0, insR t.rows p x, ⟨fun W hS => ?_, fun W hT => ?_⟩, by rw [insR_len]; omega⟩
      · exact (rPut_new v g t.rows p x W hS e3 (by omega) (by rw [atI_key e3]; exact getR_none hw hg)).mono fun e w' ⟨⟨v', g', h1, h2, h3⟩, h4⟩ => ⟨_, _, h1, h2, .inr h3, h4⟩
      · exact (Put_new q t p x W hT.st hT.rel e3 hg (by omega)).mono fun e w' ⟨h1, t', h2, h3⟩ => ⟨h1, t', h2, putR_ins hw h2.st.wf e3 hg h3⟩
theorem takeB_ex (w0 : World) (q : Nat) (t : TT) (g : Nat) (v : Value) (a n : Int) (hw : t.WF) (a0 : 0 ≤ a) (a1 : a < 4294967296) (hl : t.rows.length < 500) :
    ∃ o h e L', TakeB w0 q t g v a n o h e L' ∧ L'.length ≤ t.rows.length + 1 := by
  cases hr : rightB a n with
  | false =>
    refine ⟨0, false, 2, t.rows, ⟨fun W hS => ?_, fun W hT => ?_⟩, by omega⟩
    · exact (rTake_arg v g t.rows a n W hS a0 a1 hr).mono fun e w' ⟨h1, h2, h3⟩ => ⟨_, _, h1, h2, .inl rfl, h3⟩
    · exact (Take_arg q t a n W hT.st hr).mono fun e w' ⟨h1, h2⟩ => ⟨h1, t, Went.refl hT.st h2, rfl⟩
  | true =>
    obtain ⟨e1, e2, e3⟩ := ka_bs a0 a1 hr
    revert e1 e2 e3
    generalize bs a n = p
    intro e1 e2 e3
    subst e1 e2
    cases hg : t.get p with
    | some u =>
      obtain ⟨i, hi, hx⟩ := getR_some hw hg
      have hil := (List.getElem?_eq_some_iff.1 hx).1
      refine ⟨u, true, 0, delR t.rows i, ⟨fun W hS => ?_, fun W hT => ?_⟩, by unfold delR; simp; omega⟩
      · exact (rTake_yes v g t.rows (ka p) p.length i (p, u) W hS (by omega) a0 a1 hr (by rw [atI_key e3]; exact hi) hx).mono fun e w' ⟨⟨v', g', h1, h2, h3⟩, h4⟩ => ⟨_, _, h1, h2, .inr h3, h4⟩
      · exact (Take_yes q t p u W hT.st hT.rel e3 hg (by omega)).mono fun e w' ⟨h1, t', h2, h3⟩ => ⟨h1, t', h2, takeR_del hw h2.st.wf hx h3⟩
    | none =>
      refine ⟨0, false, 0, t.rows, ⟨fun W hS => ?_, fun W hT => ?_⟩, by omega⟩
      · exact (rTake_no v g t.rows (ka p) p.length W hS (by omega) a0 a1 hr (by rw [atI_key e3]; exact getR_none hw hg)).mono fun e w' ⟨h1, h2, h3⟩ => ⟨_, _, h1, h2, .inl rfl, h3⟩
      · exact (Take_no q t p W hT.st hT.rel e3 hg).mono fun e w' ⟨h1, h2⟩ => ⟨h1, t, Went.refl hT.st h2, rfl⟩
/-- the list first, then the trie -/
theorem Acted.mk2 {w0 w w1 w2 w3 w4 : World} {q g g' : Nat} {t t' : TT} {v v' : Value} {L' : List (Key × Int)} (h : PW w0 w q t g v) (h1 : Below w.heap.size w w1) (hr : RT w1 g' v' L') (hg : g' = g ∨ w.heap.size ≤ g') (h2 : Below w1.heap.size w1 w2) (hw : Went w2 w3 q t t') (ht : t'.rows = L') (h4 : Below w3.heap.size w3 w4) :
    Acted w0 w w4 q t g q t' g' v' := by
  have h12 := bthen h1 h2
  have T2 := h.tw.below h12
  have T3 := T2.went hw
  have hg1 : g' ∉ q :: t.blocks := by
    rcases hg with rfl | hg
    · exact h.ap
    · intro hm
      rcases List.mem_cons.1 hm with e | hm
      · have := h.tw.st.lt; omega
      · have := h.tw.st.here.lt hm; omega
  have hl2 : g' < w2.heap.size := Nat.lt_of_lt_of_le hr.lt h2.size
  have R3 : RT w3 g' v' t'.rows := by rw [ht]; exact (hr.below h2).of_block (hw.kb.block g' hl2 hg1)
  refine ⟨⟨T3.below h4, R3.below h4, ?_⟩, ?_, ?_, hg⟩
  · intro hm
    rcases List.mem_cons.1 hm with e | hm
    · exact hg1 (by rw [e]; simp)
    · rcases hw.new g' hm with h5 | h5
      · exact hg1 (List.mem_cons_of_mem _ h5)
      · omega
  · exact (KB.thenB h12 hw.kb).trans (KB.of_below h4)
  · intro c hc
    rcases List.mem_cons.1 hc with e | hc
    · exact .inl (by rw [e]; simp)
    · rcases hw.new c hc with h5 | h5
      · exact .inl (List.mem_cons_of_mem _ h5)
      · exact .inr (by have := h12.size; omega)
end Go.Proofs.YtbacahoihkpkpaaDoor
