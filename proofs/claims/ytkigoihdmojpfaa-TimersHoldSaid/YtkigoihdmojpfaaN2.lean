/- Two queues in one world, and a count beside them. -/
import Derived.Test.YtkigoihdmojpfaaG9
import Derived.Test.YtkigoihdmojpfaaN1
import Derived.Test.YtkigoihdmojpfaaL3
namespace Go.Proofs.Ytkigoihdmojpfaa
open Go.RowKit
open Go.Sort (grow)

/-- two queues of one's own, and a box of a number beside them -/
structure Q2 (w0 W : World) (c9 : Nat) (late : Int) (qa qb : Nat) (Fa Fb : List Nat) (A B : List TR) : Prop where
  a : Qu W qa Fa A
  b : Qu W qb Fb B
  ga : ∀ c ∈ Fa, w0.heap.size ≤ c
  gb : ∀ c ∈ Fb, w0.heap.size ≤ c
  dj : ∀ c ∈ Fa, c ∉ Fb
  n9 : OneB W c9 (.int .i64 late) 3
  na : c9 ∉ Fa
  nb : c9 ∉ Fb
  g9 : w0.heap.size ≤ c9
  bl : Below w0.heap.size w0 W
section
variable {w0 W : World} {c9 : Nat} {late : Int} {qa qb : Nat} {Fa Fb : List Nat} {A B : List TR} (h : Q2 w0 W c9 late qa qb Fa Fb A B)
include h
theorem Q2.below {W' : World} (hb : Below W.heap.size W W') : Q2 w0 W' c9 late qa qb Fa Fb A B :=
  ⟨h.a.below hb, h.b.below hb, h.ga, h.gb, h.dj, h.n9.below hb, h.na, h.nb, h.g9, bthen h.bl hb⟩
theorem Q2.actA {W' : World} {A' : List TR} (hN : QNew W W' qa Fa A') : ∃ Fa', Q2 w0 W' c9 late qa qb Fa' Fb A' B := by
  obtain ⟨Fa', h1, h2, h3⟩ := hN
  have hb0 := h.bl.size
  have hdj : ∀ c ∈ Fa', c ∉ Fb := fun c hc hm => by
    rcases h2 c hc with h4 | h4
    · exact h.dj c h4 hm
    · have := h.b.foot_lt c hm; omega
  refine ⟨Fa', h1, h.b.kept fun c hc => h3.block c (h.b.foot_lt c hc) (fun hm => h.dj c hm hc), fun c hc => ?_, h.gb, hdj, (h3.block c9 h.n9.lt h.na).trans h.n9, fun hm => ?_, h.nb, h.g9, h3.after h.ga h.bl⟩
  · rcases h2 c hc with h4 | h4
    · exact h.ga c h4
    · omega
  · rcases h2 _ hm with h4 | h4
    · exact h.na h4
    · have := h.n9.lt; omega
theorem Q2.actB {W' : World} {B' : List TR} (hN : QNew W W' qb Fb B') : ∃ Fb', Q2 w0 W' c9 late qa qb Fa Fb' A B' ∧ (∀ c ∈ Fb', c ∈ Fb ∨ W.heap.size ≤ c) ∧ KB Fb W W' := by
  obtain ⟨Fb', h1, h2, h3⟩ := hN
  have hb0 := h.bl.size
  have hdj : ∀ c ∈ Fa, c ∉ Fb' := fun c hc hm => by
    rcases h2 c hm with h4 | h4
    · exact h.dj c hc h4
    · have := h.a.foot_lt c hc; omega
  refine ⟨Fb', ⟨h.a.kept fun c hc => h3.block c (h.a.foot_lt c hc) (fun hm => h.dj c hc hm), h1, h.ga, fun c hc => ?_, hdj, (h3.block c9 h.n9.lt h.nb).trans h.n9, h.na, fun hm => ?_, h.g9, h3.after h.gb h.bl⟩, h2, h3⟩
  · rcases h2 c hc with h4 | h4
    · exact h.gb c h4
    · omega
  · rcases h2 _ hm with h4 | h4
    · exact h.nb h4
    · have := h.n9.lt; omega
end
theorem Q2.start {w0 w1 w2 : World} {qa qb : Nat} (h1 : OQ w0 w1 qa [] []) (h2 : OQ w1 w2 qb [] []) : ∃ Fa Fb, Q2 w0 (w2.alloc (.cells #[.int .i64 0] 3)) w2.heap.size 0 qa qb Fa Fb [] [] := by
  obtain ⟨Fa, a1, a2, _⟩ := h1.ex
  obtain ⟨Fb, b1, b2, _⟩ := h2.ex
  have hb := below1 w2 (.cells #[.int .i64 0] 3)
  have z1 := h1.bl.size
  have z2 := h2.bl.size
  refine ⟨Fa, Fb, (a1.below h2.bl).below hb, b1.below hb, a2, fun c hc => Nat.le_trans z1 (b2 c hc), fun c hc hm => ?_, OneB.new _ _ _, fun hm => ?_, fun hm => ?_, by omega, bthen (bthen h1.bl h2.bl) hb⟩
  · have := a1.foot_lt c hc; have := b2 c hm; omega
  · have := a1.foot_lt _ hm; omega
  · have := b1.foot_lt _ hm; omega

/-- Arm of any timer and time -/
def ArmP (W W' : World) (q : Nat) (F : List Nat) (S' : List TR) (e : Ending) : Prop :=
  (∃ was had er, e = .returned (.tuple #[.int .i64 was, .bool had, .int .i64 er])) ∧ QNew W W' q F S'
theorem ArmV_q (q : Nat) (F : List Nat) (S : List TR) (r : TR) (w : World) (h : Qu w q F S) (hk : KBt r.kind r.addr r.len) (hl : S.length < 1000) :
    Calls Try.prog 19 #[.pointer (some ⟨q, 0, none⟩), keyV r.kind r.addr r.len, .int .i64 r.due] w fun e w' => ArmP w w' q F (armV S r) e := by
  by_cases hr : rightT r.kind r.addr r.len = true
  · by_cases hd : 0 ≤ r.due ∧ r.due ≤ 4611686018427387904
    · have ho : okT r = true := by unfold okT; simp [hr, hd]
      have hv : armV S r = armS S r := by unfold armV; rw [if_pos ho]
      rw [hv]
      exact (Arm_q q F S r w h (okT_wf ho hk.2.1.1 hk.2.1.2) (by omega)).mono fun e w' ⟨he, hN⟩ => ⟨⟨_, _, _, he⟩, hN⟩
    · have ho : okT r = false := by
        unfold okT
        rw [hr]
        simp
        omega
      have hv : armV S r = S := by unfold armV; rw [if_neg (by rw [ho]; simp)]
      rw [hv]
      obtain ⟨p, hc⟩ := h.c
      exact (Arm_time q p r.kind r.addr r.len r.due w hc hr (by omega)).mono fun e w' ⟨he, hb⟩ => ⟨⟨_, _, _, he⟩, QNew.same h hb⟩
  · have hr : rightT r.kind r.addr r.len = false := by simpa using hr
    have ho : okT r = false := by unfold okT; rw [hr]; rfl
    have hv : armV S r = S := by unfold armV; rw [if_neg (by rw [ho]; simp)]
    rw [hv]
    obtain ⟨p, hc⟩ := h.c
    exact (Arm_arg q p r.kind r.addr r.len r.due w hc hr).mono fun e w' ⟨he, hb⟩ => ⟨⟨_, _, _, he⟩, QNew.same h hb⟩

/-- the timers and times that came in, as rows -/
def ents (m : Nat) (kd a n d : Nat → Int) : List TR := (List.range m).map fun i => ⟨kd i, a i, n i, d i⟩
theorem ents_len (m : Nat) (kd a n d : Nat → Int) : (ents m kd a n d).length = m := by simp [ents]
theorem ents_at {m : Nat} {kd a n d : Nat → Int} {i : Nat} (hi : i < m) : (ents m kd a n d)[i]'(by rw [ents_len]; exact hi) = ⟨kd i, a i, n i, d i⟩ := by simp [ents]
theorem fwd_next {m : Nat} {kd a n d : Nat → Int} {i : Nat} (hi : i < m) : fwd ((ents m kd a n d).take (i + 1)) = armV (fwd ((ents m kd a n d).take i)) ⟨kd i, a i, n i, d i⟩ := by
  rw [fwd_step _ i (by rw [ents_len]; exact hi), ents_at hi]
theorem bwd_next {m : Nat} {kd a n d : Nat → Int} {i : Nat} (hi : i < m) : bwd ((ents m kd a n d).drop i) = bwdStep (bwd ((ents m kd a n d).drop (i + 1))) ⟨kd i, a i, n i, d i⟩ := by
  rw [List.drop_eq_getElem_cons (by rw [ents_len]; exact hi), ents_at hi]
  rfl
theorem bwd_len (E : List TR) : (bwd E).length ≤ E.length := by rw [← fwd_bwd]; exact fwd_len E
theorem filter_both {α : Type} (p : α → Bool) (A : List α) : A.length = (A.filter p).length + (A.filter (fun r => !p r)).length := by
  induction A with
  | nil => rfl
  | cons x A ih =>
    cases h : p x <;> simp [h] <;> omega
/-- all ways but the plain one are shut -/
def NrmX (Q : Exit → Act → World → Prop) : Exit → Act → World → Prop := fun e a w => match e with
  | .normal => Q .normal a w
  | _ => False
theorem nrmX_intro {Q : Exit → Act → World → Prop} {a : Act} {w : World} (h : Q .normal a w) : NrmX Q .normal a w := h
theorem wp_nrmX {P : Program} {c : Code} {Q : Exit → Act → World → Prop} {a : Act} {w : World} (h : c.wp P (NrmX Q) a w) : c.wp P Q a w :=
  Code.wp_mono (by
    intro e a w h
    cases e <;> first | exact h | exact h.elim) h
end Go.Proofs.Ytkigoihdmojpfaa
