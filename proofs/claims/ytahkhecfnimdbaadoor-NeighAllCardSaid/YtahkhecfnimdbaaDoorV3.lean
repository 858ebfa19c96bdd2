/- The reference: Forget, Since. (Printed by gen_v3.py.) -/
import Derived.Test.YtahkhecfnimdbaaDoorV2
namespace Go.Proofs.YtahkhecfnimdbaaDoor
open Go.RowKit Go.Maps

def flT (pr : Rec → Bool) (T : List Rec) : List Rec := T.filter fun r => !pr r
def fRel (pr : Rec → Bool) (T : List Rec) (W0 : World) (n : Nat) (v6 v7 : Value) (wr : World) : Prop :=
  ∃ i : Nat, n = T.length - i ∧ i ≤ T.length ∧ v7 = .int .i64 i ∧ wr.ownsRow W0.heap.size 40 5 v6 (flT pr (T.take i)).length (nCs (flT pr (T.take i))) ∧ Below W0.heap.size W0 wr
theorem flT_yes {pr : Rec → Bool} {T : List Rec} {i : Nat} {r : Rec} (h : T[i]? = some r) (hp : pr r = false) : flT pr (T.take (i + 1)) = flT pr (T.take i) ++ [r] := by
  have hl := (List.getElem?_eq_some_iff.1 h).1
  rw [List.take_succ_eq_append_getElem hl]
  rw [List.getElem?_eq_getElem hl] at h
  rw [Option.some.inj h]
  simp [flT, hp]
theorem flT_no {pr : Rec → Bool} {T : List Rec} {i : Nat} {r : Rec} (h : T[i]? = some r) (hp : pr r = true) : flT pr (T.take (i + 1)) = flT pr (T.take i) := by
  have hl := (List.getElem?_eq_some_iff.1 h).1
  rw [List.take_succ_eq_append_getElem hl]
  rw [List.getElem?_eq_getElem hl] at h
  rw [Option.some.inj h]
  simp [flT, hp]
theorem heap_setAt {W : World} {B : Nat} {cs : Array Value} {t : TypeId} (h : W.heap[B]? = some (.cells cs t (0, 0))) (o : Nat) (v : Value) : (W.setCell ⟨B, o, none⟩ v).heap[B]? = some (.cells (cs.setIfInBounds o v) t (0, 0)) := by
  obtain ⟨hlt, hk⟩ := Array.getElem?_eq_some_iff.1 h
  show (W.heap.modify B _)[B]? = _
  rw [Array.getElem?_eq_getElem (by rw [Array.size_modify]; exact hlt), Array.getElem_modify_self, hk]
  rfl
theorem sl_of_row0 {W : World} {B : Nat} {v : Value} {L : List Rec} (h : W.ownsRow B 40 5 v L.length (nCs L)) (h0 : 0 < W.heap.size) :
    ∃ (base : Option Addr) (g cap : Nat), v = .slice base L.length cap ∧ SL W base g L ∧ (base = none ∨ B ≤ g) ∧ (base = none → g = 0) := by
  obtain ⟨base, g, cap, h1, h2, h3⟩ := sl_of_row h h0
  cases base with
  | none =>
    have := h2.nil rfl
    subst this
    exact ⟨none, 0, cap, h1, SL.none h0, .inl rfl, fun _ => rfl⟩
  | some a => exact ⟨some a, g, cap, h1, h2, h3, fun e => (by cases e)⟩
/-- a result of the reference: the list in order behind it -/
def RNew (_w w' : World) (v : Value) (T : List Rec) (now lost : Int) : Prop :=
  ∃ (base : Option Addr) (g cap : Nat), v = RN base T.length cap now lost ∧ SL w' base g T


set_option maxHeartbeats 4000000 in
set_option maxRecDepth 100000 in
theorem rForget_any (base : Option Addr) (g cap : Nat) (T : List Rec) (now lost f : Int) (w : World) (hS : SL w base g T) (hlen : T.length < 1000) :
    Calls Tryd.prog 35 #[RN base T.length cap now lost, .int .i64 f] w fun e w' => (∃ v, e = .returned (.tuple #[v, .int .i64 (T.length - (flT (fun r => decide (r.face = f)) T).length)]) ∧ RNew w w' v (flT (fun r => decide (r.face = f)) T) now lost) ∧ Below w.heap.size w w' := by
  have B0 : Below w.heap.size w ((w.alloc (rnObj base T.length cap now lost)).alloc rnNil) := ((Below.refl _ _).alloc (Nat.le_refl _) _).alloc (by simp) _
  have HS := Lib.hid (hS.below B0)
  have hgl := hS.lt
  have HB0 := Lib.hid B0
  obtain ⟨i0, hi, hz0, hz1, hz2⟩ := info_parts info40
  have hd0 : ((w.alloc (rnObj base T.length cap now lost)).alloc rnNil).cell? ⟨w.heap.size, 0, none⟩ = some (.slice base T.length cap) := by simp [go_sem]
  have hd1 : ((w.alloc (rnObj base T.length cap now lost)).alloc rnNil).cell? ⟨w.heap.size, 1, none⟩ = some (.int .i64 now) := by simp [go_sem]
  have hd2 : ((w.alloc (rnObj base T.length cap now lost)).alloc rnNil).cell? ⟨w.heap.size, 2, none⟩ = some (.int .i64 lost) := by simp [go_sem]
  have he0 : ((w.alloc (rnObj base T.length cap now lost)).alloc rnNil).cell? ⟨w.heap.size + 1, 0, none⟩ = some (.slice none 0 0) := by simp [go_sem]
  have he1 : ((w.alloc (rnObj base T.length cap now lost)).alloc rnNil).cell? ⟨w.heap.size + 1, 1, none⟩ = some (.int .i64 0) := by simp [go_sem]
  have he2 : ((w.alloc (rnObj base T.length cap now lost)).alloc rnNil).cell? ⟨w.heap.size + 1, 2, none⟩ = some (.int .i64 0) := by simp [go_sem]
  have hf0 : ∀ o, ((w.alloc (rnObj base T.length cap now lost)).alloc rnNil).frozen? ⟨w.heap.size, o, none⟩ = false := fun o => by simp [go_sem]
  have hf1 : ∀ o, ((w.alloc (rnObj base T.length cap now lost)).alloc rnNil).frozen? ⟨w.heap.size + 1, o, none⟩ = false := fun o => by simp [go_sem]
  have hsz : ((w.alloc (rnObj base T.length cap now lost)).alloc rnNil).heap.size = w.heap.size + 1 + 1 := by simp
  have HD := Lib.hid (And.intro hd0 (And.intro hd1 (And.intro hd2 (And.intro he0 (And.intro he1 he2)))))
  have HF := Lib.hid (And.intro hf0 hf1)
  have HZ := Lib.hid hsz
  have HE := Lib.hid (show ((w.alloc (rnObj base T.length cap now lost)).alloc rnNil).heap[w.heap.size + 1]? = some rnNil from by have := World.alloc_heap_new (w.alloc (rnObj base T.length cap now lost)) rnNil; rwa [World.size_alloc] at this)
  clear hS B0 hd0 hd1 hd2 he0 he1 he2 hf0 hf1 hsz
  go_enter Tryd.func35, Tryd.ntmps35
  go_wp2_with fail
  generalize ((w.alloc (rnObj base T.length cap now lost)).alloc rnNil) = W0 at *
  go_loopg [6, 7] T.length (fRel (fun r => decide (r.face = f)) T W0)
  case atStart => exact ⟨0, rfl, by omega, rfl, World.ownsRow_nil _ _ _ _, Below.refl _ _⟩
  case round =>
    obtain ⟨i, hn, hil, rfl, hrow, hbl⟩ := hrel
    have Hn := Lib.hid hn
    have hbs := hbl.size
    rw [HZ.out] at hbs
    obtain ⟨q0, q1, q2, q3, q4, q5⟩ := HD.out
    have d0 := cell_below hbl q0
    have d1 := cell_below hbl q1
    have d2 := cell_below hbl q2
    have e0 := cell_below hbl q3
    have e1 := cell_below hbl q4
    have e2 := cell_below hbl q5
    have x0 : w.heap.size < wr.heap.size := by omega
    have x1 : w.heap.size + 1 < wr.heap.size := by omega
    have hfr0 : ∀ o, wr.frozen? ⟨w.heap.size, o, none⟩ = false := fun o => (World.frozen?_of_block (a := ⟨w.heap.size, o, none⟩) (hbl.block w.heap.size (by rw [HZ.out]; omega))).trans (HF.out.1 o)
    have hfr1 : ∀ o, wr.frozen? ⟨w.heap.size + 1, o, none⟩ = false := fun o => (World.frozen?_of_block (a := ⟨w.heap.size + 1, o, none⟩) (hbl.block (w.heap.size + 1) (by rw [HZ.out]; omega))).trans (HF.out.2 o)
    have HBl := Lib.hid hbl
    clear hn q0 q1 q2 q3 q4 q5
    by_cases hlt : i < T.length
    · obtain ⟨r, hr⟩ : ∃ r, T[i]? = some r := ⟨_, List.getElem?_eq_getElem hlt⟩
      obtain ⟨rfl, z0, z1, z2, z3, z4⟩ := (HS.out.below hbl).row i r hr
      have HR := Lib.hid hr
      have hg2 : g < wr.heap.size := Nat.lt_of_lt_of_le hgl (by omega)
      have hfl := List.length_filter_le (fun r => !((fun r => decide (r.face = f)) r)) (T.take i)
      rw [List.length_take] at hfl
      have hfl2 : (flT (fun r => decide (r.face = f)) (T.take i)).length ≤ i := by unfold flT; omega
      clear hr hbl e0 e1 e2 d1 d2 hfl hfr0 hfr1
      by_cases hp : (fun r => decide (r.face = f)) r = true
      · have t1 : (r.face != f) = false := by simpa using hp
        have HT := Lib.hid (flT_no (pr := fun r => decide (r.face = f)) HR.out hp)
        have HX := Lib.hid hrow
        clear hp hrow
        go_wp2_with fail
        go_roundg (T.length - (i + 1))
        case measure => have := Hn.out; omega
        case rel => exact ⟨i + 1, rfl, by omega, by go_num, by rw [HT.out]; exact HX.out, HBl.out⟩
      · simp only [Bool.not_eq_true] at hp
        have t1 : (r.face != f) = true := by simpa using hp
        have HT := Lib.hid (flT_yes (pr := fun r => decide (r.face = f)) HR.out hp)
        clear hp
        go_wp2_with (at_builtin; refine wpList_append_own _ rfl _ _ 45 rfl W0.heap.size 40 i0 (.agg #[.int .i64 0, .int .u32 0, .int .i64 0, .int .i64 0, .int .i64 0]) 5 40 Tryd.underlying45 hi hz0 hz1 hz2 rfl (by decide) u6 _ _ rfl (hrow.alloc _) ⟨wr.heap.size, 0, none⟩ 1 1 (nC r) rfl rfl (cells_five_new _ _ _ _ _ _ _) (by simp [nC, Value.oneCell']) (by unfold maxLen; omega) (by omega) (by have := HBl.out.size; simp; omega) ?_; intro v' w1 hown' hgrow _; obtain ⟨g', cap', rfl⟩ := ownsRow_succ hown'; have HO := Lib.hid hown'; have HG := Lib.hid hgrow; have HX := Lib.hid hrow; clear hown' hgrow hrow)
        go_roundg (T.length - (i + 1))
        case measure => have := Hn.out; omega
        case rel => exact ⟨i + 1, rfl, by omega, by go_num, by rw [HT.out, nCs_snoc, List.length_append]; exact HO.out, ((HBl.out.alloc HBl.out.size _).grown HG.out (by have := HBl.out.size; simp; omega) (fun k e => (own_block HX.out e).1))⟩
    · obtain rfl : i = T.length := by omega
      rw [List.take_length] at hrow
      obtain ⟨base2, g2, cap2, rfl, hSL, hB2, hSG⟩ := sl_of_row0 hrow (by omega)
      have hfl := List.length_filter_le (fun r => !((fun r => decide (r.face = f)) r)) T
      have hfl2 : (flT (fun r => decide (r.face = f)) T).length ≤ T.length := hfl
      have HSL := Lib.hid hSL
      have HB2 := Lib.hid hB2
      have HSG := Lib.hid hSG
      clear hrow hSL hB2 hSG hbl hfl
      generalize hT' : flT (fun r => decide (r.face = f)) T = T' at *
      go_wp2_with fail
      have k0 : wr.heap[w.heap.size + 1]? = some rnNil := (HBl.out.block (w.heap.size + 1) (by rw [HZ.out]; omega)).trans HE.out
      have k1 : ((((wr.setCell ⟨w.heap.size, 0, none⟩ (.slice base2 T'.length cap2)).setCell ⟨w.heap.size + 1, 0, none⟩ (.slice base2 T'.length cap2)).setCell ⟨w.heap.size + 1, 1, none⟩ (.int .i64 now)).setCell ⟨w.heap.size + 1, 2, none⟩ (.int .i64 lost)).heap[w.heap.size + 1]? = some (rnObj base2 T'.length cap2 now lost) :=
        heap_setAt (heap_setAt (heap_setAt ((Below.heap_setCell _ _ _ _ (by simp)).trans k0) 0 _) 1 _) 2 _
      have k2 : ∀ j, j ≠ w.heap.size → j ≠ w.heap.size + 1 → ((((wr.setCell ⟨w.heap.size, 0, none⟩ (.slice base2 T'.length cap2)).setCell ⟨w.heap.size + 1, 0, none⟩ (.slice base2 T'.length cap2)).setCell ⟨w.heap.size + 1, 1, none⟩ (.int .i64 now)).setCell ⟨w.heap.size + 1, 2, none⟩ (.int .i64 lost)).heap[j]? = wr.heap[j]? := fun j h1 h2 =>
        (Below.heap_setCell _ _ _ _ h2).trans ((Below.heap_setCell _ _ _ _ h2).trans ((Below.heap_setCell _ _ _ _ h2).trans (Below.heap_setCell _ _ _ _ h1)))
      have k3 := ((((bthen HB0.out HBl.out).setCell (p := ⟨w.heap.size, 0, none⟩) (by simp) (.slice base2 T'.length cap2)).setCell (p := ⟨w.heap.size + 1, 0, none⟩) (by simp) (.slice base2 T'.length cap2)).setCell (p := ⟨w.heap.size + 1, 1, none⟩) (by simp) (.int .i64 now)).setCell (p := ⟨w.heap.size + 1, 2, none⟩) (by simp) (.int .i64 lost)
      generalize ((((wr.setCell ⟨w.heap.size, 0, none⟩ (.slice base2 T'.length cap2)).setCell ⟨w.heap.size + 1, 0, none⟩ (.slice base2 T'.length cap2)).setCell ⟨w.heap.size + 1, 1, none⟩ (.int .i64 now)).setCell ⟨w.heap.size + 1, 2, none⟩ (.int .i64 lost)) = V at *
      have c0 : V.cell? ⟨w.heap.size + 1, 0, none⟩ = some (.slice base2 T'.length cap2) := by simp [World.cell?, k1]
      have c1 : V.cell? ⟨w.heap.size + 1, 1, none⟩ = some (.int .i64 now) := by simp [World.cell?, k1]
      have c2 : V.cell? ⟨w.heap.size + 1, 2, none⟩ = some (.int .i64 lost) := by simp [World.cell?, k1]
      refine bodyPost_ret (v := .tuple #[RN base2 T'.length cap2 now lost, .int .i64 (T.length - T'.length)]) (by simp [results, Tryd.results35, go_sem, c0, c1, c2]) rfl ?_
      have hg2 : g2 ≠ w.heap.size ∧ g2 ≠ w.heap.size + 1 := by
        rcases HB2.out with h | h
        · have := HSG.out h; omega
        · rw [HZ.out] at h; omega
      exact ⟨⟨_, by rw [hT'], base2, g2, cap2, by rw [hT'], by rw [hT']; exact HSL.out.of_block (k2 g2 hg2.1 hg2.2)⟩, k3⟩


set_option maxHeartbeats 4000000 in
set_option maxRecDepth 100000 in
theorem rSince_any (base : Option Addr) (g cap : Nat) (T : List Rec) (now lost f : Int) (w : World) (hS : SL w base g T) (hlen : T.length < 1000) :
    Calls Tryd.prog 36 #[RN base T.length cap now lost, .int .i64 f] w fun e w' => (∃ v, e = .returned (.tuple #[v, .int .i64 (T.length - (flT (fun r => decide (r.last < f)) T).length)]) ∧ RNew w w' v (flT (fun r => decide (r.last < f)) T) now lost) ∧ Below w.heap.size w w' := by
  have B0 : Below w.heap.size w ((w.alloc (rnObj base T.length cap now lost)).alloc rnNil) := ((Below.refl _ _).alloc (Nat.le_refl _) _).alloc (by simp) _
  have HS := Lib.hid (hS.below B0)
  have hgl := hS.lt
  have HB0 := Lib.hid B0
  obtain ⟨i0, hi, hz0, hz1, hz2⟩ := info_parts info40
  have hd0 : ((w.alloc (rnObj base T.length cap now lost)).alloc rnNil).cell? ⟨w.heap.size, 0, none⟩ = some (.slice base T.length cap) := by simp [go_sem]
  have hd1 : ((w.alloc (rnObj base T.length cap now lost)).alloc rnNil).cell? ⟨w.heap.size, 1, none⟩ = some (.int .i64 now) := by simp [go_sem]
  have hd2 : ((w.alloc (rnObj base T.length cap now lost)).alloc rnNil).cell? ⟨w.heap.size, 2, none⟩ = some (.int .i64 lost) := by simp [go_sem]
  have he0 : ((w.alloc (rnObj base T.length cap now lost)).alloc rnNil).cell? ⟨w.heap.size + 1, 0, none⟩ = some (.slice none 0 0) := by simp [go_sem]
  have he1 : ((w.alloc (rnObj base T.length cap now lost)).alloc rnNil).cell? ⟨w.heap.size + 1, 1, none⟩ = some (.int .i64 0) := by simp [go_sem]
  have he2 : ((w.alloc (rnObj base T.length cap now lost)).alloc rnNil).cell? ⟨w.heap.size + 1, 2, none⟩ = some (.int .i64 0) := by simp [go_sem]
  have hf0 : ∀ o, ((w.alloc (rnObj base T.length cap now lost)).alloc rnNil).frozen? ⟨w.heap.size, o, none⟩ = false := fun o => by simp [go_sem]
  have hf1 : ∀ o, ((w.alloc (rnObj base T.length cap now lost)).alloc rnNil).frozen? ⟨w.heap.size + 1, o, none⟩ = false := fun o => by simp [go_sem]
  have hsz : ((w.alloc (rnObj base T.length cap now lost)).alloc rnNil).heap.size = w.heap.size + 1 + 1 := by simp
  have HD := Lib.hid (And.intro hd0 (And.intro hd1 (And.intro hd2 (And.intro he0 (And.intro he1 he2)))))
  have HF := Lib.hid (And.intro hf0 hf1)
  have HZ := Lib.hid hsz
  have HE := Lib.hid (show ((w.alloc (rnObj base T.length cap now lost)).alloc rnNil).heap[w.heap.size + 1]? = some rnNil from by have := World.alloc_heap_new (w.alloc (rnObj base T.length cap now lost)) rnNil; rwa [World.size_alloc] at this)
  clear hS B0 hd0 hd1 hd2 he0 he1 he2 hf0 hf1 hsz
  go_enter Tryd.func36, Tryd.ntmps36
  go_wp2_with fail
  generalize ((w.alloc (rnObj base T.length cap now lost)).alloc rnNil) = W0 at *
  go_loopg [6, 7] T.length (fRel (fun r => decide (r.last < f)) T W0)
  case atStart => exact ⟨0, rfl, by omega, rfl, World.ownsRow_nil _ _ _ _, Below.refl _ _⟩
  case round =>
    obtain ⟨i, hn, hil, rfl, hrow, hbl⟩ := hrel
    have Hn := Lib.hid hn
    have hbs := hbl.size
    rw [HZ.out] at hbs
    obtain ⟨q0, q1, q2, q3, q4, q5⟩ := HD.out
    have d0 := cell_below hbl q0
    have d1 := cell_below hbl q1
    have d2 := cell_below hbl q2
    have e0 := cell_below hbl q3
    have e1 := cell_below hbl q4
    have e2 := cell_below hbl q5
    have x0 : w.heap.size < wr.heap.size := by omega
    have x1 : w.heap.size + 1 < wr.heap.size := by omega
    have hfr0 : ∀ o, wr.frozen? ⟨w.heap.size, o, none⟩ = false := fun o => (World.frozen?_of_block (a := ⟨w.heap.size, o, none⟩) (hbl.block w.heap.size (by rw [HZ.out]; omega))).trans (HF.out.1 o)
    have hfr1 : ∀ o, wr.frozen? ⟨w.heap.size + 1, o, none⟩ = false := fun o => (World.frozen?_of_block (a := ⟨w.heap.size + 1, o, none⟩) (hbl.block (w.heap.size + 1) (by rw [HZ.out]; omega))).trans (HF.out.2 o)
    have HBl := Lib.hid hbl
    clear hn q0 q1 q2 q3 q4 q5
    by_cases hlt : i < T.length
    · obtain ⟨r, hr⟩ : ∃ r, T[i]? = some r := ⟨_, List.getElem?_eq_getElem hlt⟩
      obtain ⟨rfl, z0, z1, z2, z3, z4⟩ := (HS.out.below hbl).row i r hr
      have HR := Lib.hid hr
      have hg2 : g < wr.heap.size := Nat.lt_of_lt_of_le hgl (by omega)
      have hfl := List.length_filter_le (fun r => !((fun r => decide (r.last < f)) r)) (T.take i)
      rw [List.length_take] at hfl
      have hfl2 : (flT (fun r => decide (r.last < f)) (T.take i)).length ≤ i := by unfold flT; omega
      clear hr hbl e0 e1 e2 d1 d2 hfl hfr0 hfr1
      by_cases hp : (fun r => decide (r.last < f)) r = true
      · have t1 : decide (f ≤ r.last) = false := by simp at hp; simp; omega
        have HT := Lib.hid (flT_no (pr := fun r => decide (r.last < f)) HR.out hp)
        have HX := Lib.hid hrow
        clear hp hrow
        go_wp2_with fail
        go_roundg (T.length - (i + 1))
        case measure => have := Hn.out; omega
        case rel => exact ⟨i + 1, rfl, by omega, by go_num, by rw [HT.out]; exact HX.out, HBl.out⟩
      · simp only [Bool.not_eq_true] at hp
        have t1 : decide (f ≤ r.last) = true := by simp at hp; simp; omega
        have HT := Lib.hid (flT_yes (pr := fun r => decide (r.last < f)) HR.out hp)
        clear hp
        go_wp2_with (at_builtin; refine wpList_append_own _ rfl _ _ 45 rfl W0.heap.size 40 i0 (.agg #[.int .i64 0, .int .u32 0, .int .i64 0, .int .i64 0, .int .i64 0]) 5 40 Tryd.underlying45 hi hz0 hz1 hz2 rfl (by decide) u6 _ _ rfl (hrow.alloc _) ⟨wr.heap.size, 0, none⟩ 1 1 (nC r) rfl rfl (cells_five_new _ _ _ _ _ _ _) (by simp [nC, Value.oneCell']) (by unfold maxLen; omega) (by omega) (by have := HBl.out.size; simp; omega) ?_; intro v' w1 hown' hgrow _; obtain ⟨g', cap', rfl⟩ := ownsRow_succ hown'; have HO := Lib.hid hown'; have HG := Lib.hid hgrow; have HX := Lib.hid hrow; clear hown' hgrow hrow)
        go_roundg (T.length - (i + 1))
        case measure => have := Hn.out; omega
        case rel => exact ⟨i + 1, rfl, by omega, by go_num, by rw [HT.out, nCs_snoc, List.length_append]; exact HO.out, ((HBl.out.alloc HBl.out.size _).grown HG.out (by have := HBl.out.size; simp; omega) (fun k e => (own_block HX.out e).1))⟩
    · obtain rfl : i = T.length := by omega
      rw [List.take_length] at hrow
      obtain ⟨base2, g2, cap2, rfl, hSL, hB2, hSG⟩ := sl_of_row0 hrow (by omega)
      have hfl := List.length_filter_le (fun r => !((fun r => decide (r.last < f)) r)) T
      have hfl2 : (flT (fun r => decide (r.last < f)) T).length ≤ T.length := hfl
      have HSL := Lib.hid hSL
      have HB2 := Lib.hid hB2
      have HSG := Lib.hid hSG
      clear hrow hSL hB2 hSG hbl hfl
      generalize hT' : flT (fun r => decide (r.last < f)) T = T' at *
      go_wp2_with fail
      have k0 : wr.heap[w.heap.size + 1]? = some rnNil := (HBl.out.block (w.heap.size + 1) (by rw [HZ.out]; omega)).trans HE.out
      have k1 : ((((wr.setCell ⟨w.heap.size, 0, none⟩ (.slice base2 T'.length cap2)).setCell ⟨w.heap.size + 1, 0, none⟩ (.slice base2 T'.length cap2)).setCell ⟨w.heap.size + 1, 1, none⟩ (.int .i64 now)).setCell ⟨w.heap.size + 1, 2, none⟩ (.int .i64 lost)).heap[w.heap.size + 1]? = some (rnObj base2 T'.length cap2 now lost) :=
        heap_setAt (heap_setAt (heap_setAt ((Below.heap_setCell _ _ _ _ (by simp)).trans k0) 0 _) 1 _) 2 _
      have k2 : ∀ j, j ≠ w.heap.size → j ≠ w.heap.size + 1 → ((((wr.setCell ⟨w.heap.size, 0, none⟩ (.slice base2 T'.length cap2)).setCell ⟨w.heap.size + 1, 0, none⟩ (.slice base2 T'.length cap2)).setCell ⟨w.heap.size + 1, 1, none⟩ (.int .i64 now)).setCell ⟨w.heap.size + 1, 2, none⟩ (.int .i64 lost)).heap[j]? = wr.heap[j]? := fun j h1 h2 =>
        (Below.heap_setCell _ _ _ _ h2).trans ((Below.heap_setCell _ _ _ _ h2).trans ((Below.heap_setCell _ _ _ _ h2).trans (Below.heap_setCell _ _ _ _ h1)))
      have k3 := ((((bthen HB0.out HBl.out).setCell (p := ⟨w.heap.size, 0, none⟩) (by simp) (.slice base2 T'.length cap2)).setCell (p := ⟨w.heap.size + 1, 0, none⟩) (by simp) (.slice base2 T'.length cap2)).setCell (p := ⟨w.heap.size + 1, 1, none⟩) (by simp) (.int .i64 now)).setCell (p := ⟨w.heap.size + 1, 2, none⟩) (by simp) (.int .i64 lost)
      generalize ((((wr.setCell ⟨w.heap.size, 0, none⟩ (.slice base2 T'.length cap2)).setCell ⟨w.heap.size + 1, 0, none⟩ (.slice base2 T'.length cap2)).setCell ⟨w.heap.size + 1, 1, none⟩ (.int .i64 now)).setCell ⟨w.heap.size + 1, 2, none⟩ (.int .i64 lost)) = V at *
      have c0 : V.cell? ⟨w.heap.size + 1, 0, none⟩ = some (.slice base2 T'.length cap2) := by simp [World.cell?, k1]
      have c1 : V.cell? ⟨w.heap.size + 1, 1, none⟩ = some (.int .i64 now) := by simp [World.cell?, k1]
      have c2 : V.cell? ⟨w.heap.size + 1, 2, none⟩ = some (.int .i64 lost) := by simp [World.cell?, k1]
      refine bodyPost_ret (v := .tuple #[RN base2 T'.length cap2 now lost, .int .i64 (T.length - T'.length)]) (by simp [results, Tryd.results36, go_sem, c0, c1, c2]) rfl ?_
      have hg2 : g2 ≠ w.heap.size ∧ g2 ≠ w.heap.size + 1 := by
        rcases HB2.out with h | h
        · have := HSG.out h; omega
        · rw [HZ.out] at h; omega
      exact ⟨⟨_, by rw [hT'], base2, g2, cap2, by rw [hT'], by rw [hT']; exact HSL.out.of_block (k2 g2 hg2.1 hg2.2)⟩, k3⟩

end Go.Proofs.YtahkhecfnimdbaaDoor
