/- One turn of AddrEach: the range over addr.Each. (Printed by gen_g3.py.) -/
import Derived.Test.YtmmoccceafcfkaaDoorG2
namespace Go.Proofs.YtmmoccceafcfkaaDoor
open Go.RowKit Go.Shelf

attribute [local go_sem] Oper.semAt_some

/-- the first range over a function in a text -/
def firstRF : Code → Option Code
  | .rangeFunc g ps a b => some (.rangeFunc g ps a b)
  | .seq a b => match firstRF a with
    | some c => some c
    | none => firstRF b
  | .loop c => firstRF c
  | .block _ c => firstRF c
  | .scope c => firstRF c
  | .cond _ a b => match firstRF a with
    | some c => some c
    | none => firstRF b
  | _ => none
noncomputable def rf9 : Code := (Tryd.f9.body.bind firstRF).getD .skip

/-- a box of one cell -/
def OneB (W : World) (b : Nat) (v : Value) (t : TypeId) : Prop := W.heap[b]? = some (.cells #[v] t (0, 0))
theorem OneB.lt {W : World} {b : Nat} {v : Value} {t : TypeId} (h : OneB W b v t) : b < W.heap.size := (Array.getElem?_eq_some_iff.1 h).1
theorem OneB.c {W : World} {b : Nat} {v : Value} {t : TypeId} (h : OneB W b v t) : W.cell? ⟨b, 0, none⟩ = some v := by simp [World.cell?, show W.heap[b]? = _ from h]
theorem OneB.f {W : World} {b : Nat} {v : Value} {t : TypeId} (h : OneB W b v t) : W.frozen? ⟨b, 0, none⟩ = false := by simp [World.frozen?, show W.heap[b]? = _ from h]
theorem OneB.new (W : World) (v : Value) (t : TypeId) : OneB (W.alloc (.cells #[v] t)) W.heap.size v t := World.alloc_heap_new W _
theorem OneB.below {W W' : World} {b : Nat} {v : Value} {t : TypeId} (h : OneB W b v t) (hb : Below W.heap.size W W') : OneB W' b v t := (hb.block b h.lt).trans h
theorem OneB.alloc {W : World} {b : Nat} {v : Value} {t : TypeId} (h : OneB W b v t) (o : Obj) : OneB (W.alloc o) b v t := h.below ((Below.refl _ W).alloc (Nat.le_refl _) o)
theorem OneB.other {W : World} {b b' o : Nat} {v u : Value} {t : TypeId} (h : OneB W b v t) (hne : b ≠ b') : OneB (W.setCell ⟨b', o, none⟩ u) b v t := (Below.heap_setCell W _ u b hne).trans h
theorem OneB.set {W : World} {b : Nat} {v : Value} {t : TypeId} (u : Value) (h : OneB W b v t) : OneB (W.setCell ⟨b, 0, none⟩ u) b u t := heap_set1 _ h
theorem OneB.grown {W W' : World} {b k : Nat} {v : Value} {t : TypeId} (h : OneB W b v t) (hg : W.grownBy W' (some k)) (hne : b ≠ k) : OneB W' b v t := (hg.block b h.lt (fun e => hne (Option.some.inj e))).trans h
theorem oneB_own {β : Type} (b : Nat) (t : TypeId) (f : β → Value) : Own (fun s W => OneB W b (f s) t) := fun s X Y row hs hg hrow =>
  (hg.block b (OneB.lt hs) (fun e' => by obtain ⟨o, ho, hc⟩ := hrow b e'.symm; rw [show X.heap[b]? = _ from hs] at ho; cases ho; cases hc)).trans hs
theorem grown_own {β : Type} (W0 : World) (k : Nat) : OwnFrom W0.heap.size (fun (_ : β) W => W0.grownBy W (some k)) := fun _ X Y row hs hg hr =>
  ⟨hg.os.trans hs.os, hg.tape.trans hs.tape, hg.output.trans hs.output, Nat.le_trans hs.size hg.size, fun j hj hne => (hg.block j (Nat.lt_of_lt_of_le hj hs.size) (fun e => by have := (hr j e.symm).1; omega)).trans (hs.block j hj hne)⟩
theorem grown_set {W0 W : World} {k : Nat} (h : W0.grownBy W (some k)) (v : Value) : W0.grownBy (W.setCell ⟨k, 0, none⟩ v) (some k) :=
  ⟨h.os, h.tape, h.output, by have := h.size; simpa using this, fun j hj hne => (Below.heap_setCell W _ v j (fun e => hne (by rw [e]))).trans (h.block j hj hne)⟩
theorem grown_cell {W0 W : World} {k b o : Nat} {v : Value} (h : W0.grownBy W (some k)) (hc : W0.cell? ⟨b, o, none⟩ = some v) (hne : b ≠ k) : W.cell? ⟨b, o, none⟩ = some v :=
  h.cell hc (fun e => hne (Option.some.inj e))

/-- between two rounds of a turn -/
def eI (L : List (Nat × Int)) (many turn : Int) (bn : Nat) (W0 : World) (pre : List (Nat × Int)) (W : World) : Prop :=
  ((pre <+: L ∧ (turn = 0 → pre.length = 0 ∨ (pre.length : Int) < many)) ∧ OneB W bn (.int .i64 pre.length) 3) ∧ W0.grownBy W (some bn)
/-- a round has left -/
def eX (L : List (Nat × Int)) (many turn : Int) (bn : Nat) (W0 : World) (c : Code) (pre : List (Nat × Int)) (W : World) : Prop :=
  ((c = .ret ∧ ¬ pre <+: L) ∨ (c = .exit 2 ∧ turn = 0 ∧ 0 < pre.length ∧ many ≤ pre.length ∧ (pre.length = 1 ∨ (pre.length : Int) ≤ many))) ∧ (c = .ret ∨ (OneB W bn (.int .i64 pre.length) 3 ∧ W0.grownBy W (some bn)))
theorem eI_own (L : List (Nat × Int)) (many turn : Int) (bn : Nat) (W0 : World) : OwnFrom W0.heap.size (eI L many turn bn W0) :=
  OwnFrom.and (OwnFrom.and (fun _ _ _ _ hs _ _ => hs) (Own.from (oneB_own bn 3 (fun (pre : List (Nat × Int)) => .int .i64 pre.length)) _)) (grown_own W0 bn)
theorem eX_own (L : List (Nat × Int)) (many turn : Int) (bn : Nat) (W0 : World) (c : Code) : OwnFrom W0.heap.size (eX L many turn bn W0 c) := fun s X Y row hs hg hr => by
  refine ⟨hs.1, ?_⟩
  rcases hs.2 with h | h
  · exact .inl h
  · exact .inr ⟨Own.from (oneB_own bn 3 (fun (pre : List (Nat × Int)) => .int .i64 pre.length)) _ s X Y row h.1 hg hr, grown_own (β := List (Nat × Int)) W0 bn s X Y row h.2 hg hr⟩
/-- how a turn ends -/
def TurnEnd (L : List (Nat × Int)) (many turn : Int) (bn : Nat) (W0 W : World) : Prop :=
  ∃ n : Nat, n ≤ L.length ∧ (turn = 0 → (n : Int) = min (L.length : Int) (max 1 many)) ∧ (turn ≠ 0 → n = L.length) ∧ OneB W bn (.int .i64 n) 3 ∧ W0.grownBy W (some bn)

theorem pre_next {L pre : List (Nat × Int)} {x p : Nat × Int} (h : pre <+: L) (hp : L[pre.length]? = some p) : pre ++ [x] <+: L ↔ x = p := by
  obtain ⟨t, rfl⟩ := h
  rw [List.prefix_append_right_inj]
  cases t with
  | nil => simp at hp
  | cons y t =>
    simp at hp
    subst hp
    constructor
    · rintro ⟨t', ht⟩
      simp at ht
      exact ht.1
    · rintro rfl
      exact ⟨t, rfl⟩

set_option maxRecDepth 1000000 in
set_option maxHeartbeats 4000000 in
theorem rf9_turn (s : ByteArray) (hs : s.size ≤ 200) (L : List (Nat × Int)) (hL : eachS s.data.toList = L) (bm br bw bt bn Bs g cap : Nat) (base : Option Addr) (many turn : Int) (ds : List Deferred)
    (c0 c1 c2 c9 c10 c11 c12 c13 c14 c15 c16 c17 c18 c19 c20 c21 c22 c23 c24 c26 c27 c28 c29 c30 c31 c32 c33 c34 c35 c36 c37 c38 c39 c40 c41 c42 c43 c44 c45 c46 c47 c48 c49 c50 c51 c52 c53 c54 c55 c56 c57 c58 c59 c60 c61 c62 c63 c64 c65 c66 c67 c68 c69 c70 c71 c72 c73 c74 c75 c76 c77 c78 c79 c80 c81 : Value) (W0 : World) (Q : Exit → Act → World → Prop)
    (n3 : bm ≠ bn) (n4 : br ≠ bn) (n5 : bw ≠ bn) (n6 : Bs ≠ bn) (n7 : bt ≠ bn) (n8 : g ≠ bn) (n9 : 2 ≠ bn)
    (h3 : OneB W0 bm (.int .i64 many) 3) (h4 : OneB W0 br (.bool false) 4) (h5 : OneB W0 bw (.slice base L.length cap) 68) (h7 : OneB W0 bt (.int .i64 turn) 3) (h8 : OneB W0 bn (.int .i64 0) 3)
    (h6 : W0.heap[Bs]? = some (.cells #[.string s] 9)) (hm : MLen W0)
    (hrow : ∀ i p, L[i]? = some p → base = some ⟨g, 0, none⟩ ∧ W0.cell? ⟨g, i * 2, none⟩ = some (.int .i64 p.1) ∧ W0.cell? ⟨g, i * 2 + 1, none⟩ = some (.int .u32 p.2))
    (hdone : ∀ (D : Nat) (W : World), W0.heap.size ≤ D → TurnEnd L many turn bn W0 W → W.heap[D]? = some (.deferred (some [])) → Q .normal { tmps := #[c0, c1, c2, .pointer (some ⟨bm, 0, none⟩), .pointer (some ⟨br, 0, none⟩), .pointer (some ⟨bw, 0, none⟩), .func (.func 72) #[] #[.pointer (some ⟨Bs, 0, none⟩)], .pointer (some ⟨bt, 0, none⟩), .pointer (some ⟨bn, 0, none⟩), c9, c10, c11, c12, c13, c14, c15, c16, c17, c18, c19, c20, c21, c22, c23, c24, .func (.func 72) #[] #[.pointer (some ⟨Bs, 0, none⟩)], c26, c27, c28, c29, c30, c31, c32, c33, c34, c35, c36, c37, c38, c39, c40, c41, c42, c43, c44, c45, c46, c47, c48, c49, c50, c51, c52, c53, c54, c55, c56, c57, c58, c59, c60, c61, c62, c63, c64, c65, c66, c67, c68, c69, c70, c71, c72, c73, c74, c75, c76, c77, c78, c79, c80, c81], defers := { target := .collected D, args := #[] } :: ds } W)
    (hbrk : ∀ (D : Nat) (W : World), W0.heap.size ≤ D → TurnEnd L many turn bn W0 W → W.heap[D]? = some (.deferred (some [])) → Q (.exit 2) { tmps := #[c0, c1, c2, .pointer (some ⟨bm, 0, none⟩), .pointer (some ⟨br, 0, none⟩), .pointer (some ⟨bw, 0, none⟩), .func (.func 72) #[] #[.pointer (some ⟨Bs, 0, none⟩)], .pointer (some ⟨bt, 0, none⟩), .pointer (some ⟨bn, 0, none⟩), c9, c10, c11, c12, c13, c14, c15, c16, c17, c18, c19, c20, c21, c22, c23, c24, .func (.func 72) #[] #[.pointer (some ⟨Bs, 0, none⟩)], c26, c27, c28, c29, c30, c31, c32, c33, c34, c35, c36, c37, c38, c39, c40, c41, c42, c43, c44, c45, c46, c47, c48, c49, c50, c51, c52, c53, c54, c55, c56, c57, c58, c59, c60, c61, c62, c63, c64, c65, c66, c67, c68, c69, c70, c71, c72, c73, c74, c75, c76, c77, c78, c79, c80, c81], defers := { target := .collected D, args := #[] } :: ds } W) :
    Code.wp Tryd.prog rf9 Q { tmps := #[c0, c1, c2, .pointer (some ⟨bm, 0, none⟩), .pointer (some ⟨br, 0, none⟩), .pointer (some ⟨bw, 0, none⟩), .func (.func 72) #[] #[.pointer (some ⟨Bs, 0, none⟩)], .pointer (some ⟨bt, 0, none⟩), .pointer (some ⟨bn, 0, none⟩), c9, c10, c11, c12, c13, c14, c15, c16, c17, c18, c19, c20, c21, c22, c23, c24, .func (.func 72) #[] #[.pointer (some ⟨Bs, 0, none⟩)], c26, c27, c28, c29, c30, c31, c32, c33, c34, c35, c36, c37, c38, c39, c40, c41, c42, c43, c44, c45, c46, c47, c48, c49, c50, c51, c52, c53, c54, c55, c56, c57, c58, c59, c60, c61, c62, c63, c64, c65, c66, c67, c68, c69, c70, c71, c72, c73, c74, c75, c76, c77, c78, c79, c80, c81], defers := ds } W0 := by
  have HL := Lib.hid hL
  have HD := Lib.hid hdone
  have HK := Lib.hid hbrk
  have HRow := Lib.hid hrow
  have hlen : L.length ≤ s.size + 1 := by
    have := eachS_len s.data.toList
    rw [hL] at this
    simpa using this
  clear hL hdone hbrk hrow
  conv => arg 2; whnf
  refine (wpIn_wide (n := 3)).1 ?_
  have hBl : Bs < W0.heap.size := (Array.getElem?_eq_some_iff.1 h6).1
  have es := Each_stops (3 - 1) Bs s (by omega) W0 h6 hm
  rw [HL.out] at es
  refine wpIn_rangeFunc_ownH rfl (by omega) (gf := 72) (lb := #[.pointer (some ⟨Bs, 0, none⟩)]) rfl trivial (enters_of Tryd.func72 (by kernel_rfl) rfl)
    es kpE_t (kpE_b hBl hm.lt) (Below.refl _ _) (fun _ => rfl)
    (eI L many turn bn W0) (eX L many turn bn W0) (eI_own _ _ _ _ _) (eX_own _ _ _ _ _)
    ⟨⟨⟨List.nil_prefix, fun _ => .inl rfl⟩, h8⟩, ⟨rfl, rfl, rfl, Nat.le_refl _, fun _ _ _ => rfl⟩⟩
    (fun x a' _ => a' = { tmps := #[c0, c1, c2, .pointer (some ⟨bm, 0, none⟩), .pointer (some ⟨br, 0, none⟩), .pointer (some ⟨bw, 0, none⟩), .func (.func 72) #[] #[.pointer (some ⟨Bs, 0, none⟩)], .pointer (some ⟨bt, 0, none⟩), .pointer (some ⟨bn, 0, none⟩), .int .i64 x.1, .int .u32 x.2, c11, c12, c13, c14, c15, c16, c17, c18, c19, c20, c21, c22, c23, c24, .func (.func 72) #[] #[.pointer (some ⟨Bs, 0, none⟩)], .int .i64 x.1, .int .u32 x.2, c28, c29, c30, c31, c32, c33, c34, c35, c36, c37, c38, c39, c40, c41, c42, c43, c44, c45, c46, c47, c48, c49, c50, c51, c52, c53, c54, c55, c56, c57, c58, c59, c60, c61, c62, c63, c64, c65, c66, c67, c68, c69, c70, c71, c72, c73, c74, c75, c76, c77, c78, c79, c80, c81], defers := [] }) (fun _ _ _ _ _ _ hs _ _ => hs) ?assign ?body ?done ?stop
  case assign =>
    rintro l pre x W K hI hK
    unfold encE
    gi_wp2_with fail
    exact hK _ _ (KeepsFrom.refl _ _) ⟨rfl, rfl⟩ hI rfl
  case body =>
    rintro l pre x a' W hl' ⟨r, hr⟩ ⟨⟨⟨hpre, htn⟩, hn⟩, hg⟩ rfl hlt
    have x0 := hn.c
    have x1 := hn.f
    have y3 := (h3.grown hg n3).c
    have y5 := (h5.grown hg n5).c
    have y7 := (h7.grown hg n7).c
    have y4 := (h4.grown hg n4).c
    have y4f := (h4.grown hg n4).f
    have hpl := hpre.length_le
    have HG := Lib.hid hg
    have HN := Lib.hid hn
    have HPre := Lib.hid hpre
    have HTn := Lib.hid htn
    clear hg hn hpre htn
    have K0 : KpE Bs W W := ⟨rfl, rfl⟩
    by_cases hA : L.length ≤ pre.length
    · have t1 : decide (L.length ≤ pre.length) = true := by simp [hA]
      have t1' : decide ((L.length : Int) ≤ (pre.length : Int)) = true := by simp [hA]
      have HX := Lib.hid (show ¬ pre ++ [x] <+: L from fun h => by have := h.length_le; simp at this; omega)
      gi_wp2_with fail
      exact ⟨(KeepsOthers.setCell _ _ _).from _, .inl ⟨rfl, HX.out⟩, .inl rfl⟩
    · have hlt2 : pre.length < L.length := by omega
      obtain ⟨p, hp⟩ : ∃ p, L[pre.length]? = some p := ⟨_, List.getElem?_eq_getElem hlt2⟩
      obtain ⟨rfl, r0, r1⟩ := HRow.out _ p hp
      have z0 := grown_cell HG.out r0 n8
      have z1 := grown_cell HG.out r1 n8
      have HPN := Lib.hid (pre_next (x := x) HPre.out hp)
      clear hp r0 r1
      obtain ⟨pk, pa⟩ := p
      obtain ⟨xk, xa⟩ := x
      have t1 : decide (L.length ≤ pre.length) = false := by simp; omega
      have i0 : (0 : Int) ≤ (pre.length : Int) := by omega
      have i1 : (pre.length : Int) < (L.length : Int) := by omega
      by_cases e1 : xk = pk
      · have t2 : ((xk : Int) != (pk : Int)) = false := by simp [e1]
        by_cases e2 : xa = pa
        · have t3 : (xa != pa) = false := by simp [e2]
          have HX := Lib.hid (HPN.out.2 (by rw [e1, e2]))
          clear e1 e2 HPN
          have hsz : (pre ++ [(xk, xa)]).length = pre.length + 1 := by simp
          have HSz := Lib.hid hsz
          clear hsz
          have HN2 := Lib.hid (HN.out.set (.int .i64 ((pre.length : Int) + 1)))
          have HG2 := Lib.hid (grown_set HG.out (.int .i64 ((pre.length : Int) + 1)))
          have w3 := (h3.grown HG2.out n3).c
          have w7 := (h7.grown HG2.out n7).c
          by_cases e3 : turn = 0
          · have t4 : (turn == 0) = true := by simp [e3]
            have HE3 := Lib.hid e3
            clear e3
            by_cases e4 : many ≤ (pre.length : Int) + 1
            · have t5 : decide (many ≤ (pre.length : Int) + 1) = true := by simp [e4]
              gi_wp2_with fail
              refine ⟨(KeepsOthers.setCell _ _ _).from _, .inr ⟨rfl, HE3.out, by rw [HSz.out]; omega, by rw [HSz.out]; omega, ?_⟩, .inr ⟨by rw [HSz.out]; exact HN2.out, HG2.out⟩⟩
              rw [HSz.out]
              rcases HTn.out HE3.out with h | h
              · left; omega
              · right; omega
            · have t5 : decide (many ≤ (pre.length : Int) + 1) = false := by simp; omega
              gi_wp2_with fail
              refine ⟨(KeepsOthers.setCell _ _ _).from _, ⟨?_, ?_⟩, ⟨⟨HX.out, fun _ => .inr (by rw [HSz.out]; omega)⟩, by rw [HSz.out]; exact HN2.out⟩, HG2.out⟩
              · exact Below.heap_setCell W _ _ Bs n6
              · exact Below.heap_setCell W _ _ 2 n9
          · have t4 : (turn == 0) = false := by simp [e3]
            gi_wp2_with fail
            refine ⟨(KeepsOthers.setCell _ _ _).from _, ⟨?_, ?_⟩, ⟨⟨HX.out, fun h => absurd h e3⟩, by rw [HSz.out]; exact HN2.out⟩, HG2.out⟩
            · exact Below.heap_setCell W _ _ Bs n6
            · exact Below.heap_setCell W _ _ 2 n9
        · have t3 : (xa != pa) = true := by simp [e2]
          have HX := Lib.hid (show ¬ pre ++ [(xk, xa)] <+: L from fun h => e2 (congrArg Prod.snd (HPN.out.1 h)))
          clear e1 e2 HPN
          gi_wp2_with fail
          exact ⟨(KeepsOthers.setCell _ _ _).from _, .inl ⟨rfl, HX.out⟩, .inl rfl⟩
      · have t2 : ((xk : Int) != (pk : Int)) = true := by simp; omega
        have HX := Lib.hid (show ¬ pre ++ [(xk, xa)] <+: L from fun h => e1 (congrArg Prod.fst (HPN.out.1 h)))
        clear e1 HPN
        gi_wp2_with fail
        exact ⟨(KeepsOthers.setCell _ _ _).from _, .inl ⟨rfl, HX.out⟩, .inl rfl⟩
  case done =>
    rintro D xs W hD rfl ⟨⟨⟨hpre, htn⟩, hn⟩, hg⟩ hK
    refine HD.out D W hD ⟨xs.length, Nat.le_refl _, fun h0 => ?_, fun _ => rfl, hn, hg⟩ hK
    rcases htn h0 with h | h
    · omega
    · omega
  case stop =>
    rintro D c pre W hD hS ⟨h1, h2⟩ hK
    rcases h1 with ⟨rfl, h⟩ | ⟨rfl, h0, hp, hm1, hm2⟩
    · exact absurd hS h
    · rcases h2 with h | ⟨hn, hg⟩
      · cases h
      · gi_wp2_with fail
        have hle := hS.length_le
        refine HK.out D W hD ⟨pre.length, hle, fun _ => ?_, fun h => absurd h0 h, hn, hg⟩ hK
        omega
end Go.Proofs.YtmmoccceafcfkaaDoor
