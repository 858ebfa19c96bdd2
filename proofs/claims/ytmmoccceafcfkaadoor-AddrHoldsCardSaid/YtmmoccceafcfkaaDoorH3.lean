/- AddrHolds: the range over addr.Each. (Printed by gen_h3.py.) -/
import Derived.Test.YtmmoccceafcfkaaDoorG3
import Derived.Test.YtmmoccceafcfkaaDoorH2
namespace Go.Proofs.YtmmoccceafcfkaaDoor
open Go.RowKit Go.Shelf

attribute [local go_sem] Oper.semAt_some

noncomputable def rf11 : Code := (Tryd.f11.body.bind firstRF).getD .skip

theorem pre_nextG {α : Type} {L pre : List α} {x p : α} (h : pre <+: L) (hp : L[pre.length]? = some p) : pre ++ [x] <+: L ↔ x = p := by
  obtain ⟨t, rfl⟩ := h
  rw [List.prefix_append_right_inj]
  cases t with
  | nil => simp at hp
  | cons y t =>
    simp at hp
    subst hp
    constructor
    · rintro ⟨t', ht⟩
      simp at ht
      exact ht.1
    · rintro rfl
      exact ⟨t, rfl⟩

/-- between two rounds -/
def jI (l : List Int) (bn : Nat) (W0 : World) (pre : List (Nat × Int)) (W : World) : Prop :=
  ((pre.map (·.2) <+: l) ∧ OneB W bn (.int .i64 pre.length) 3) ∧ W0.grownBy W (some bn)
/-- a round has left -/
def jX (l : List Int) (m : Nat) (c : Code) (pre : List (Nat × Int)) (_ : World) : Prop := c = .ret ∧ (¬ pre.map (·.2) <+: l ∨ ∃ x ∈ pre, m < x.1)
theorem jI_own (l : List Int) (bn : Nat) (W0 : World) : OwnFrom W0.heap.size (jI l bn W0) :=
  OwnFrom.and (OwnFrom.and (fun _ _ _ _ hs _ _ => hs) (Own.from (oneB_own bn 3 (fun (pre : List (Nat × Int)) => .int .i64 pre.length)) _)) (grown_own W0 bn)
theorem jX_own (l : List Int) (m : Nat) (B : Nat) (c : Code) : OwnFrom B (jX l m c) := fun _ _ _ _ hs _ _ => hs

set_option maxRecDepth 1000000 in
set_option maxHeartbeats 4000000 in
theorem rf11_all (T : ByteArray) (hs : T.size ≤ 1000000) (l : List Int) (hL : (eachS T.data.toList).map (·.2) = l) (hLp : ∀ p ∈ eachS T.data.toList, p.1 ≤ T.size) (bl br bt bn Bs b off cap : Nat) (base : Option Addr) (ds : List Deferred)
    (c0 c1 c3 c8 c9 c10 c11 c12 c13 c14 c15 c16 c17 c18 c19 c20 c21 c22 c23 c24 c25 c26 c27 c29 c30 c31 c32 c33 c34 c35 c36 c37 c38 c39 c40 c41 c42 c43 c44 c45 c46 c47 c48 c49 c50 c51 c52 c53 c54 c55 c56 c57 c58 c59 c60 c61 c62 c63 c64 c65 c66 c67 c68 c69 c70 c71 c72 c73 c74 c75 c76 c77 c78 c79 c80 c81 c82 c83 c84 c85 c86 c87 c88 c89 c90 c91 c92 c93 c94 c95 c96 c97 c98 c99 c100 c101 c102 c103 c104 c105 c106 c107 c108 c109 c110 c111 c112 : Value) (W0 : World) (Q : Exit → Act → World → Prop) (hll : l.length ≤ 1000)
    (n2 : bl ≠ bn) (n4 : br ≠ bn) (n5 : bt ≠ bn) (n6 : Bs ≠ bn) (n8 : b ≠ bn) (n9 : 2 ≠ bn)
    (h2 : OneB W0 bl (.slice base l.length cap) 83) (h4 : OneB W0 br (.bool false) 4) (h5 : OneB W0 bt (.string T) 9) (h7 : OneB W0 bn (.int .i64 0) 3)
    (h6 : W0.heap[Bs]? = some (.cells #[.string T] 9)) (hm : MLen W0) (hA : ArgU W0 base b off l)
    (hdone : ∀ (D : Nat) (W : World), W0.heap.size ≤ D → OneB W bn (.int .i64 l.length) 3 → W0.grownBy W (some bn) → W.heap[D]? = some (.deferred (some [])) → Q .normal { tmps := #[c0, c1, .pointer (some ⟨bl, 0, none⟩), c3, .pointer (some ⟨br, 0, none⟩), .pointer (some ⟨bt, 0, none⟩), .func (.func 72) #[] #[.pointer (some ⟨Bs, 0, none⟩)], .pointer (some ⟨bn, 0, none⟩), c8, c9, c10, c11, c12, c13, c14, c15, c16, c17, c18, c19, c20, c21, c22, c23, c24, c25, c26, c27, .func (.func 72) #[] #[.pointer (some ⟨Bs, 0, none⟩)], c29, c30, c31, c32, c33, c34, c35, c36, c37, c38, c39, c40, c41, c42, c43, c44, c45, c46, c47, c48, c49, c50, c51, c52, c53, c54, c55, c56, c57, c58, c59, c60, c61, c62, c63, c64, c65, c66, c67, c68, c69, c70, c71, c72, c73, c74, c75, c76, c77, c78, c79, c80, c81, c82, c83, c84, c85, c86, c87, c88, c89, c90, c91, c92, c93, c94, c95, c96, c97, c98, c99, c100, c101, c102, c103, c104, c105, c106, c107, c108, c109, c110, c111, c112], defers := { target := .collected D, args := #[] } :: ds } W) :
    Code.wp Tryd.prog rf11 Q { tmps := #[c0, c1, .pointer (some ⟨bl, 0, none⟩), c3, .pointer (some ⟨br, 0, none⟩), .pointer (some ⟨bt, 0, none⟩), .func (.func 72) #[] #[.pointer (some ⟨Bs, 0, none⟩)], .pointer (some ⟨bn, 0, none⟩), c8, c9, c10, c11, c12, c13, c14, c15, c16, c17, c18, c19, c20, c21, c22, c23, c24, c25, c26, c27, .func (.func 72) #[] #[.pointer (some ⟨Bs, 0, none⟩)], c29, c30, c31, c32, c33, c34, c35, c36, c37, c38, c39, c40, c41, c42, c43, c44, c45, c46, c47, c48, c49, c50, c51, c52, c53, c54, c55, c56, c57, c58, c59, c60, c61, c62, c63, c64, c65, c66, c67, c68, c69, c70, c71, c72, c73, c74, c75, c76, c77, c78, c79, c80, c81, c82, c83, c84, c85, c86, c87, c88, c89, c90, c91, c92, c93, c94, c95, c96, c97, c98, c99, c100, c101, c102, c103, c104, c105, c106, c107, c108, c109, c110, c111, c112], defers := ds } W0 := by
  have HL := Lib.hid hL
  have HLp := Lib.hid hLp
  have HD := Lib.hid hdone
  have HA := Lib.hid hA
  clear hL hLp hdone hA
  conv => arg 2; whnf
  refine (wpIn_wide (n := 3)).1 ?_
  have hBl : Bs < W0.heap.size := (Array.getElem?_eq_some_iff.1 h6).1
  have es := Each_stops (3 - 1) Bs T (by omega) W0 h6 hm
  refine wpIn_rangeFunc_ownH rfl (by omega) (gf := 72) (lb := #[.pointer (some ⟨Bs, 0, none⟩)]) rfl trivial (enters_of Tryd.func72 (by kernel_rfl) rfl)
    es kpE_t (kpE_b hBl hm.lt) (Below.refl _ _) (fun _ => rfl)
    (jI l bn W0) (jX l T.size) (jI_own _ _ _) (jX_own _ _ _)
    ⟨⟨List.nil_prefix, h7⟩, ⟨rfl, rfl, rfl, Nat.le_refl _, fun _ _ _ => rfl⟩⟩
    (fun x a' _ => a' = { tmps := #[c0, c1, .pointer (some ⟨bl, 0, none⟩), c3, .pointer (some ⟨br, 0, none⟩), .pointer (some ⟨bt, 0, none⟩), .func (.func 72) #[] #[.pointer (some ⟨Bs, 0, none⟩)], .pointer (some ⟨bn, 0, none⟩), .int .i64 x.1, .int .u32 x.2, c10, c11, c12, c13, c14, c15, c16, c17, c18, c19, c20, c21, c22, c23, c24, c25, c26, c27, .func (.func 72) #[] #[.pointer (some ⟨Bs, 0, none⟩)], .int .i64 x.1, .int .u32 x.2, c31, c32, c33, c34, c35, c36, c37, c38, c39, c40, c41, c42, c43, c44, c45, c46, c47, c48, c49, c50, c51, c52, c53, c54, c55, c56, c57, c58, c59, c60, c61, c62, c63, c64, c65, c66, c67, c68, c69, c70, c71, c72, c73, c74, c75, c76, c77, c78, c79, c80, c81, c82, c83, c84, c85, c86, c87, c88, c89, c90, c91, c92, c93, c94, c95, c96, c97, c98, c99, c100, c101, c102, c103, c104, c105, c106, c107, c108, c109, c110, c111, c112], defers := [] }) (fun _ _ _ _ _ _ hs _ _ => hs) ?assign ?body ?done ?stop
  case assign =>
    rintro q pre x W K hI hK
    unfold encE
    gi_wp2_with fail
    exact hK _ _ (KeepsFrom.refl _ _) ⟨rfl, rfl⟩ hI rfl
  case body =>
    rintro q pre x a' W hl' ⟨r, hr⟩ ⟨⟨hpre, hn⟩, hg⟩ rfl hlt
    have x0 := hn.c
    have x1 := hn.f
    have y2 := (h2.grown hg n2).c
    have y5 := (h5.grown hg n5).c
    have y4 := (h4.grown hg n4).c
    have y4f := (h4.grown hg n4).f
    have hpl := hpre.length_le
    rw [List.length_map] at hpl
    have HG := Lib.hid hg
    have HN := Lib.hid hn
    have HPre := Lib.hid hpre
    clear hg hn hpre
    by_cases hA : l.length ≤ pre.length
    · have t1 : decide (l.length ≤ pre.length) = true := by simp [hA]
      have HX := Lib.hid (show ¬ (pre ++ [x]).map (·.2) <+: l from fun h => by have := h.length_le; simp at this; omega)
      gi_wp2_with fail
      exact ⟨(KeepsOthers.setCell _ _ _).from _, rfl, .inl HX.out⟩
    · have hlt2 : pre.length < l.length := by omega
      obtain ⟨p, hp⟩ : ∃ p, l[pre.length]? = some p := ⟨_, List.getElem?_eq_getElem hlt2⟩
      obtain ⟨rfl, r0⟩ := HA.out.cells _ p hp
      have z0 := grown_cell HG.out r0 n8
      have HPN := Lib.hid (pre_nextG (x := x.2) HPre.out (by rw [List.length_map]; exact hp))
      clear hp r0
      obtain ⟨xk, xa⟩ := x
      have t1 : decide (l.length ≤ pre.length) = false := by simp; omega
      have i0 : (0 : Int) ≤ (pre.length : Int) := by omega
      have i1 : (pre.length : Int) < (l.length : Int) := by omega
      have t5 : decide ((xk : Int) < 0) = false := by simp
      by_cases e2 : xa = p
      · have t3 : (xa != p) = false := by simp [e2]
        have HX := Lib.hid (show (pre ++ [(xk, xa)]).map (·.2) <+: l by rw [List.map_append]; exact HPN.out.2 e2)
        clear e2 HPN
        by_cases e3 : T.size < xk
        · have t4 : decide (T.size < xk) = true := by simp [e3]
          gi_wp2_with fail
          exact ⟨(KeepsOthers.setCell _ _ _).from _, rfl, .inr ⟨(xk, xa), by simp, e3⟩⟩
        · have t4 : decide (T.size < xk) = false := by simp; omega
          have hsz : (pre ++ [(xk, xa)]).length = pre.length + 1 := by simp
          have HSz := Lib.hid hsz
          clear hsz
          have HN2 := Lib.hid (HN.out.set (.int .i64 ((pre.length : Int) + 1)))
          have HG2 := Lib.hid (grown_set HG.out (.int .i64 ((pre.length : Int) + 1)))
          gi_wp2_with fail
          refine ⟨(KeepsOthers.setCell _ _ _).from _, ⟨?_, ?_⟩, ⟨HX.out, by rw [HSz.out]; exact HN2.out⟩, HG2.out⟩
          · exact Below.heap_setCell W _ _ Bs n6
          · exact Below.heap_setCell W _ _ 2 n9
      · have t3 : (xa != p) = true := by simp [e2]
        have HX := Lib.hid (show ¬ (pre ++ [(xk, xa)]).map (·.2) <+: l from fun h => e2 (HPN.out.1 (by rw [List.map_append] at h; exact h)))
        clear e2 HPN
        gi_wp2_with fail
        exact ⟨(KeepsOthers.setCell _ _ _).from _, rfl, .inl HX.out⟩
  case done =>
    rintro D xs W hD rfl ⟨⟨hpre, hn⟩, hg⟩ hK
    have hlen := congrArg List.length HL.out
    rw [List.length_map] at hlen
    rw [hlen] at hn
    exact HD.out D W hD hn hg hK
  case stop =>
    rintro D c pre W hD hS ⟨_, h1⟩ hK
    exfalso
    rcases h1 with h | ⟨x, hx, hlt⟩
    · apply h
      rw [← HL.out]
      exact hS.map _
    · have := HLp.out x (hS.subset hx)
      omega
end Go.Proofs.YtmmoccceafcfkaaDoor
