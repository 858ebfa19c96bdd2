/- A region that draws its order and only reads, in a round of a range over a function. -/
import Derived.Sort.BigQuietIn
import Derived.Sort.QuietIn
import Derived.RangeFuncCalls
namespace Go.Proofs.YtahkhecfnimdbaaDoor
open Go

def noDefer (o : Oper) : Bool := match o.op with
  | .defer _ => false
  | _ => true
theorem noDefer_ne {o : Oper} (h : noDefer o = true) : ∀ c, o.op ≠ .defer c := by
  intro c e
  unfold noDefer at h
  rw [e] at h
  cases h

theorem wpOps_round {F : Fence} {n : Nat} {P : Program} {ops : Array Oper} {Q : Exit → Act → World → Prop} (l : Nat) (_hro : F.round = none) (hd : ∀ (i : Nat) (o : Oper), ops[i]? = some o → noDefer o = true) :
    ∀ (is : List Nat) (a : Act) (w : World), wpOpsIn F n P ops Q is a w → wpOpsIn (F.inRound l) n P ops Q is a w := by
  intro is
  induction is with
  | nil => exact fun _ _ h => h
  | cons i rest ih =>
    intro a w h
    simp only [wpOpsIn] at h ⊢
    cases ho : ops[i]? with
    | none => simp only [ho] at h ⊢; exact ih _ _ h
    | some o =>
      simp only [ho] at h ⊢
      have hn := noDefer_ne (hd i o ho)
      by_cases hw : Region.wanted o (yielded ops a.tmps) = true
      · simp only [hw, if_true] at h ⊢
        unfold Oper.wpIn at h ⊢
        refine ⟨h.1, ?_⟩
        have h2 := h.2
        rw [Oper.semAt_eq _ _ _ hn] at h2 ⊢
        generalize (execOp a.eval o).run P w = r at h2 ⊢
        cases r with
        | ok x w' =>
          cases x with
          | enter f args =>
            refine ⟨h2.1, ?_⟩
            refine CallsIn.mono (CallsIn.inRound l h2.2) ?_
            intro e w'' he
            cases e with
            | returned v => exact ih _ _ he
            | panicked c => exact he
            | outgrown => exact he
          | row r args => exact ⟨h2.1, RowsIn.mono (F := F.inRound l) h2.2 (fun v w'' he => ih _ _ he)⟩
          | round l' f tm as bo =>
            refine ⟨h2.1, ?_⟩
            refine RoundIn.mono (F := F.inRound l) h2.2 ?_
            intro e w'' he
            cases e with
            | returned v => exact ih _ _ he
            | panicked c => exact he
            | outgrown => exact he
          | _ => first | exact ih _ _ h2 | exact h2.elim
        | halt f w' => cases f <;> exact h2
      · simp only [hw, if_false, Bool.false_eq_true] at h ⊢
        exact ⟨h.1, ih _ _ h.2⟩

theorem wpIn_region_quiet_round {F : Fence} {n : Nat} {P : Program} {id : Nat} {Q : Exit → Act → World → Prop} {a : Act} {w : World} {os : List Oper} {l : Nat} (hro : F.round = none) (hm : P.follows .mixedOrders = true) (hB : Region.lexB .any os.toArray = true) (hd : os.all noDefer = true)
    (h : wpQuietIn F n P os.toArray (fun w' => ∃ n, w' = w.drewN n) (fun a' => ∀ w', (∃ n, w' = w.drewN n) → Q .normal a' w') os a) : (Code.region id os.toArray true).wpIn (F.inRound l) n P Q a w := by
  refine wpIn_region_draw fun t => wpOps_round l hro ?_ _ _ _ ?_
  · intro i o ho
    have : o ∈ os := by
      have := Array.mem_of_getElem? ho
      simpa using this
    exact List.all_eq_true.1 hd o this
  · simp only [Region.lexB, Bool.and_eq_true] at hB
    simp only [Region.schedule, hm, Bool.true_or, if_true]
    refine wpAnyIn_sound _ t _ a _ ?_
    refine wpAnyIn_of_quiet (C := fun w' => ∃ n, w' = w.drewN n) (Q := fun a' => ∀ w', (∃ n, w' = w.drewN n) → Q .normal a' w') hro (fun _ w' hw' h => h w' hw') _ _ _ _ ⟨1, rfl⟩ ?_
    have := wpAnyQIn_lex (F := F) (n := n) (C := fun w' => ∃ n, w' = w.drewN n) (md := .any) hB.1 os 0 (Array.replicate os.toArray.size false) a (by simp) (by simpa using hB.2) h
    simpa using this
end Go.Proofs.YtahkhecfnimdbaaDoor
