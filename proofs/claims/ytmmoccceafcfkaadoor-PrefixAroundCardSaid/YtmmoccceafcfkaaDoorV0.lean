/- Boxes of one cell; a region that draws its order in a round of a range over a function. (Printed by gen_v0.py.) -/
import Derived.Test.YtmmoccceafcfkaaDoorD2
import Derived.Sort.BigQuietIn
import Derived.Sort.QuietIn
import Derived.OrdersIn
import Derived.StillTail
import Derived.StillTailTactics
import Derived.Deep.Quiet
import Derived.Lib.QuietBelow
namespace Go.Proofs.YtmmoccceafcfkaaDoor
open Go.RowKit Go.Shelf

def noDefer (o : Oper) : Bool := match o.op with
  | .defer _ => false
  | _ => true
theorem noDefer_ne {o : Oper} (h : noDefer o = true) : ∀ c, o.op ≠ .defer c := by
  intro c e
  unfold noDefer at h
  rw [e] at h
  cases h
theorem rowsIn_wide {n : Nat} {P : Program} {row : String} {args : Array Value} {w : World} {R : Value → World → Prop} (h : Rows P row args w R) : RowsIn Fence.wide n P row args w R :=
  fun c cs _ => let ⟨v, w', r, s⟩ := h c cs; ⟨v, w', r, stepsIn_wide.2 s⟩
theorem operIn_wide {n : Nat} {P : Program} {o : Oper} {a : Act} {w : World} {K : Act → World → Prop} {Q : Exit → Act → World → Prop} (h : o.wp P a w K Q) : o.wpIn Fence.wide (n + 1) P a w K Q := by
  refine ⟨fun _ _ => trivial, ?_⟩
  unfold Oper.wp at h
  show o.uponIn Fence.wide (n + 1) P a K Q ((o.semAt none a.eval).run P w)
  rw [Oper.semAt_none]
  generalize (execOp a.eval o).run P w = r at *
  cases r with
  | ok x w' =>
    cases x <;> simp only [Oper.upon, Oper.uponIn] at h ⊢
    case value => exact h
    case skip => exact h
    case defer => exact h
    case enter => exact ⟨fun h => by omega, callsIn_wide.2 (h.mono fun e w'' he => by cases e <;> exact he)⟩
    case row => exact ⟨fun h => by omega, rowsIn_wide h⟩
  | halt f w' => cases f <;> exact h
theorem wpAny_wide {n : Nat} {P : Program} {ops : Array Oper} {Q : Exit → Act → World → Prop} {md : Region.Mode} (hlo : ¬ LetsOut Q) : ∀ (fuel : Nat) (listed : Array Bool) (a : Act) (w : World),
    wpAny P md ops Q fuel listed a w → wpAnyIn Fence.wide (n + 1) P md ops Q fuel listed a w
  | 0, _, _, _, h => h
  | fuel + 1, listed, a, w, h => by
    refine ⟨h.1, fun i hi => ?_⟩
    have h2 := h.2 i hi
    unfold wpOp at h2
    unfold wpOpIn
    cases ho : ops[i]? with
    | none => simp only [ho] at h2; exact wpAny_wide hlo fuel _ _ _ h2
    | some o =>
      simp only [ho] at h2 ⊢
      split
      · rename_i hw
        rw [if_pos hw] at h2
        rcases h2 with h2 | h2
        · exact operIn_wide (Oper.wp_mono (fun a' w' => wpAny_wide hlo fuel _ a' w') h2)
        · exact absurd h2.2 hlo
      · rename_i hw
        rw [if_neg hw] at h2
        exact ⟨fun _ _ => trivial, wpAny_wide hlo fuel _ _ _ h2⟩

theorem wpOps_round {F : Fence} {n : Nat} {P : Program} {ops : Array Oper} {Q : Exit → Act → World → Prop} (l : Nat) (hd : ∀ (i : Nat) (o : Oper), ops[i]? = some o → noDefer o = true) :
    ∀ (is : List Nat) (a : Act) (w : World), wpOpsIn F n P ops Q is a w → wpOpsIn (F.inRound l) n P ops Q is a w := by
  intro is
  induction is with
  | nil => exact fun _ _ h => h
  | cons i rest ih =>
    intro a w h
    simp only [wpOpsIn] at h ⊢
    cases ho : ops[i]? with
    | none => simp only [ho] at h ⊢; exact ih _ _ h
    | some o =>
      simp only [ho] at h ⊢
      have hn := noDefer_ne (hd i o ho)
      by_cases hw : Region.wanted o (yielded ops a.tmps) = true
      · simp only [hw, if_true] at h ⊢
        unfold Oper.wpIn at h ⊢
        refine ⟨h.1, ?_⟩
        have h2 := h.2
        rw [Oper.semAt_eq _ _ _ hn] at h2 ⊢
        generalize (execOp a.eval o).run P w = r at h2 ⊢
        cases r with
        | ok x w' =>
          cases x with
          | enter f args =>
            refine ⟨h2.1, ?_⟩
            refine CallsIn.mono (CallsIn.inRound l h2.2) ?_
            intro e w'' he
            cases e with
            | returned v => exact ih _ _ he
            | panicked c => exact he
            | outgrown => exact he
          | row r args => exact ⟨h2.1, RowsIn.mono (F := F.inRound l) h2.2 (fun v w'' he => ih _ _ he)⟩
          | round l' f tm asg bdy =>
            refine ⟨h2.1, ?_⟩
            refine RoundIn.mono (F := F.inRound l) h2.2 ?_
            intro e w'' he
            cases e with
            | returned v => exact ih _ _ he
            | panicked c => exact he
            | outgrown => exact he
          | _ => first | exact ih _ _ h2 | exact h2.elim
        | halt f w' => cases f <;> exact h2
      · simp only [hw, if_false, Bool.false_eq_true] at h ⊢
        exact ⟨h.1, ih _ _ h.2⟩

/-- whatever serves every order serves in a round too -/
theorem wpIn_region_round {n : Nat} {P : Program} {id : Nat} {Q : Exit → Act → World → Prop} {a : Act} {w : World} {os : List Oper} {l : Nat} (hm : P.follows .mixedOrders = true) (hd : os.all noDefer = true) (hlo : ¬ LetsOut Q)
    (h : wpAny P .any os.toArray Q os.toArray.size (Array.replicate os.toArray.size false) a w.drew) : (Code.region id os.toArray true).wpIn (Fence.wide.inRound l) (n + 1) P Q a w := by
  refine wpIn_region_draw fun t => wpOps_round l ?_ _ _ _ ?_
  · intro i o ho
    have : o ∈ os := by
      have := Array.mem_of_getElem? ho
      simpa using this
    exact List.all_eq_true.1 hd o this
  · simp only [Region.schedule, hm, Bool.true_or, if_true]
    exact wpAnyIn_sound _ t _ a _ (wpAny_wide hlo _ _ _ _ h)

/-- reads and calls of which nothing but new blocks is left, in a round -/
theorem wpIn_below_round {n : Nat} {P : Program} {id : Nat} {Q : Exit → Act → World → Prop} {a : Act} {w : World} {os : List Oper} {l : Nat} (hm : P.follows .mixedOrders = true) (hB : Region.lexB .any os.toArray = true) (hd : os.all noDefer = true) (hlo : ¬ LetsOut Q)
    (h : wpQuiet P os.toArray (fun w' => ∃ p : Regrown, w' = Go.Sort.grow (redrawn w p.d) p.os) (fun a' => ∀ w', (∃ p : Regrown, w' = Go.Sort.grow (redrawn w p.d) p.os) → Q .normal a' w') os a) : (Code.region id os.toArray true).wpIn (Fence.wide.inRound l) (n + 1) P Q a w := by
  refine wpIn_region_round hm hd hlo ?_
  simp only [Region.lexB, Bool.and_eq_true] at hB
  refine wpAny_of_quiet (C := fun w' => ∃ p : Regrown, w' = Go.Sort.grow (redrawn w p.d) p.os) (Q := fun a' => ∀ w', (∃ p : Regrown, w' = Go.Sort.grow (redrawn w p.d) p.os) → Q .normal a' w') (fun _ w' hw' h => h w' hw') _ _ _ _ ⟨⟨w.drawn + 1, #[]⟩, by rw [Go.Sort.grow_empty]; rfl⟩ ?_
  have := wpAnyQ_lex (P := P) (C := fun w' => ∃ p : Regrown, w' = Go.Sort.grow (redrawn w p.d) p.os) (md := .any) hB.1 os 0 (Array.replicate os.toArray.size false) a (by simp) (by simpa using hB.2) h
  simpa using this
theorem keeps_regrown (W : World) (d : Nat) (os : Array Obj) : KeepsOthers W (Go.Sort.grow (redrawn W d) os) :=
  ⟨(below_regrown W d os).size, fun k _ h _ => ((below_regrown W d os).block k (Array.getElem?_eq_some_iff.1 h).1).trans h⟩
theorem grown_regrown {W0 W : World} {k : Nat} (h : W0.grownBy W (some k)) (d : Nat) (os : Array Obj) : W0.grownBy (Go.Sort.grow (redrawn W d) os) (some k) :=
  ⟨h.os, h.tape, h.output, Nat.le_trans h.size (below_regrown W d os).size, fun j hj hne => ((below_regrown W d os).block j (Nat.lt_of_lt_of_le hj h.size)).trans (h.block j hj hne)⟩
theorem grown_alloc {W0 W : World} {k : Nat} (h : W0.grownBy W (some k)) (o : Obj) : W0.grownBy (W.alloc o) (some k) :=
  ⟨h.os, h.tape, h.output, by have := h.size; simp; omega, fun j hj hne => (((Below.refl _ W).alloc (Nat.le_refl _) o).block j (Nat.lt_of_lt_of_le hj h.size)).trans (h.block j hj hne)⟩
/-- the first range over a function in a text -/
def firstRF : Code → Option Code
  | .rangeFunc g ps a b => some (.rangeFunc g ps a b)
  | .seq a b => match firstRF a with
    | some c => some c
    | none => firstRF b
  | .loop c => firstRF c
  | .block _ c => firstRF c
  | .scope c => firstRF c
  | .cond _ a b => match firstRF a with
    | some c => some c
    | none => firstRF b
  | _ => none
/-- a box of one cell -/
def OneB (W : World) (b : Nat) (v : Value) (t : TypeId) : Prop := W.heap[b]? = some (.cells #[v] t (0, 0))
theorem OneB.lt {W : World} {b : Nat} {v : Value} {t : TypeId} (h : OneB W b v t) : b < W.heap.size := (Array.getElem?_eq_some_iff.1 h).1
theorem OneB.c {W : World} {b : Nat} {v : Value} {t : TypeId} (h : OneB W b v t) : W.cell? ⟨b, 0, none⟩ = some v := by simp [World.cell?, show W.heap[b]? = _ from h]
theorem OneB.f {W : World} {b : Nat} {v : Value} {t : TypeId} (h : OneB W b v t) : W.frozen? ⟨b, 0, none⟩ = false := by simp [World.frozen?, show W.heap[b]? = _ from h]
theorem OneB.new (W : World) (v : Value) (t : TypeId) : OneB (W.alloc (.cells #[v] t)) W.heap.size v t := World.alloc_heap_new W _
theorem OneB.below {W W' : World} {b : Nat} {v : Value} {t : TypeId} (h : OneB W b v t) (hb : Below W.heap.size W W') : OneB W' b v t := (hb.block b h.lt).trans h
theorem OneB.alloc {W : World} {b : Nat} {v : Value} {t : TypeId} (h : OneB W b v t) (o : Obj) : OneB (W.alloc o) b v t := h.below ((Below.refl _ W).alloc (Nat.le_refl _) o)
theorem OneB.other {W : World} {b b' o : Nat} {v u : Value} {t : TypeId} (h : OneB W b v t) (hne : b ≠ b') : OneB (W.setCell ⟨b', o, none⟩ u) b v t := (Below.heap_setCell W _ u b hne).trans h
theorem OneB.set {W : World} {b : Nat} {v : Value} {t : TypeId} (u : Value) (h : OneB W b v t) : OneB (W.setCell ⟨b, 0, none⟩ u) b u t := heap_set1 _ h
theorem OneB.grown {W W' : World} {b k : Nat} {v : Value} {t : TypeId} (h : OneB W b v t) (hg : W.grownBy W' (some k)) (hne : b ≠ k) : OneB W' b v t := (hg.block b h.lt (fun e => hne (Option.some.inj e))).trans h
theorem oneB_own {β : Type} (b : Nat) (t : TypeId) (f : β → Value) : Own (fun s W => OneB W b (f s) t) := fun s X Y row hs hg hrow =>
  (hg.block b (OneB.lt hs) (fun e' => by obtain ⟨o, ho, hc⟩ := hrow b e'.symm; rw [show X.heap[b]? = _ from hs] at ho; cases ho; cases hc)).trans hs
theorem grown_own {β : Type} (W0 : World) (k : Nat) : OwnFrom W0.heap.size (fun (_ : β) W => W0.grownBy W (some k)) := fun _ X Y row hs hg hr =>
  ⟨hg.os.trans hs.os, hg.tape.trans hs.tape, hg.output.trans hs.output, Nat.le_trans hs.size hg.size, fun j hj hne => (hg.block j (Nat.lt_of_lt_of_le hj hs.size) (fun e => by have := (hr j e.symm).1; omega)).trans (hs.block j hj hne)⟩
theorem grown_set {W0 W : World} {k : Nat} (h : W0.grownBy W (some k)) (v : Value) : W0.grownBy (W.setCell ⟨k, 0, none⟩ v) (some k) :=
  ⟨h.os, h.tape, h.output, by have := h.size; simpa using this, fun j hj hne => (Below.heap_setCell W _ v j (fun e => hne (by rw [e]))).trans (h.block j hj hne)⟩
theorem grown_cell {W0 W : World} {k b o : Nat} {v : Value} (h : W0.grownBy W (some k)) (hc : W0.cell? ⟨b, o, none⟩ = some v) (hne : b ≠ k) : W.cell? ⟨b, o, none⟩ = some v :=
  h.cell hc (fun e => hne (Option.some.inj e))

end Go.Proofs.YtmmoccceafcfkaaDoor
