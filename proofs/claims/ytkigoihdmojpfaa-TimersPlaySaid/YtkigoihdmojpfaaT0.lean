/- Regions that draw their order: in a round of a range over a function; with a yield behind two moves. No program in sight. -/
import Derived.Sort.BigQuietIn
import Derived.Sort.QuietIn
import Derived.RangeFuncCalls
import Derived.OrdersIn
import Derived.StillTail
import Derived.StillTailTactics
import Derived.Deep.Quiet
namespace Go.Proofs.Ytkigoihdmojpfaa
open Go

def noDefer (o : Oper) : Bool := match o.op with
  | .defer _ => false
  | _ => true
theorem noDefer_ne {o : Oper} (h : noDefer o = true) : ∀ c, o.op ≠ .defer c := by
  intro c e
  unfold noDefer at h
  rw [e] at h
  cases h
theorem rowsIn_wide {n : Nat} {P : Program} {row : String} {args : Array Value} {w : World} {R : Value → World → Prop} (h : Rows P row args w R) : RowsIn Fence.wide n P row args w R :=
  fun c cs _ => let ⟨v, w', r, s⟩ := h c cs; ⟨v, w', r, stepsIn_wide.2 s⟩
theorem operIn_wide {n : Nat} {P : Program} {o : Oper} {a : Act} {w : World} {K : Act → World → Prop} {Q : Exit → Act → World → Prop} (h : o.wp P a w K Q) : o.wpIn Fence.wide (n + 1) P a w K Q := by
  refine ⟨fun _ _ => trivial, ?_⟩
  unfold Oper.wp at h
  show o.uponIn Fence.wide (n + 1) P a K Q ((o.semAt none a.eval).run P w)
  rw [Oper.semAt_none]
  generalize (execOp a.eval o).run P w = r at *
  cases r with
  | ok x w' =>
    cases x <;> simp only [Oper.upon, Oper.uponIn] at h ⊢
    case value => exact h
    case skip => exact h
    case defer => exact h
    case enter => exact ⟨fun h => by omega, callsIn_wide.2 (h.mono fun e w'' he => by cases e <;> exact he)⟩
    case row => exact ⟨fun h => by omega, rowsIn_wide h⟩
  | halt f w' => cases f <;> exact h
theorem wpAny_wide {n : Nat} {P : Program} {ops : Array Oper} {Q : Exit → Act → World → Prop} {md : Region.Mode} (hlo : ¬ LetsOut Q) : ∀ (fuel : Nat) (listed : Array Bool) (a : Act) (w : World),
    wpAny P md ops Q fuel listed a w → wpAnyIn Fence.wide (n + 1) P md ops Q fuel listed a w
  | 0, _, _, _, h => h
  | fuel + 1, listed, a, w, h => by
    refine ⟨h.1, fun i hi => ?_⟩
    have h2 := h.2 i hi
    unfold wpOp at h2
    unfold wpOpIn
    cases ho : ops[i]? with
    | none => simp only [ho] at h2; exact wpAny_wide hlo fuel _ _ _ h2
    | some o =>
      simp only [ho] at h2 ⊢
      split
      · rename_i hw
        rw [if_pos hw] at h2
        rcases h2 with h2 | h2
        · exact operIn_wide (Oper.wp_mono (fun a' w' => wpAny_wide hlo fuel _ a' w') h2)
        · exact absurd h2.2 hlo
      · rename_i hw
        rw [if_neg hw] at h2
        exact ⟨fun _ _ => trivial, wpAny_wide hlo fuel _ _ _ h2⟩

theorem wpOps_round {F : Fence} {n : Nat} {P : Program} {ops : Array Oper} {Q : Exit → Act → World → Prop} (l : Nat) (hd : ∀ (i : Nat) (o : Oper), ops[i]? = some o → noDefer o = true) :
    ∀ (is : List Nat) (a : Act) (w : World), wpOpsIn F n P ops Q is a w → wpOpsIn (F.inRound l) n P ops Q is a w := by
  intro is
  induction is with
  | nil => exact fun _ _ h => h
  | cons i rest ih =>
    intro a w h
    simp only [wpOpsIn] at h ⊢
    cases ho : ops[i]? with
    | none => simp only [ho] at h ⊢; exact ih _ _ h
    | some o =>
      simp only [ho] at h ⊢
      have hn := noDefer_ne (hd i o ho)
      by_cases hw : Region.wanted o (yielded ops a.tmps) = true
      · simp only [hw, if_true] at h ⊢
        unfold Oper.wpIn at h ⊢
        refine ⟨h.1, ?_⟩
        have h2 := h.2
        rw [Oper.semAt_eq _ _ _ hn] at h2 ⊢
        generalize (execOp a.eval o).run P w = r at h2 ⊢
        cases r with
        | ok x w' =>
          cases x with
          | enter f args =>
            refine ⟨h2.1, ?_⟩
            refine CallsIn.mono (CallsIn.inRound l h2.2) ?_
            intro e w'' he
            cases e with
            | returned v => exact ih _ _ he
            | panicked c => exact he
            | outgrown => exact he
          | row r args => exact ⟨h2.1, RowsIn.mono (F := F.inRound l) h2.2 (fun v w'' he => ih _ _ he)⟩
          | round l' f tm as bo =>
            refine ⟨h2.1, ?_⟩
            refine RoundIn.mono (F := F.inRound l) h2.2 ?_
            intro e w'' he
            cases e with
            | returned v => exact ih _ _ he
            | panicked c => exact he
            | outgrown => exact he
          | _ => first | exact ih _ _ h2 | exact h2.elim
        | halt f w' => cases f <;> exact h2
      · simp only [hw, if_false, Bool.false_eq_true] at h ⊢
        exact ⟨h.1, ih _ _ h.2⟩

/-- whatever serves every order serves in a round too -/
theorem wpIn_region_round {n : Nat} {P : Program} {id : Nat} {Q : Exit → Act → World → Prop} {a : Act} {w : World} {os : List Oper} {l : Nat} (hm : P.follows .mixedOrders = true) (hd : os.all noDefer = true) (hlo : ¬ LetsOut Q)
    (h : wpAny P .any os.toArray Q os.toArray.size (Array.replicate os.toArray.size false) a w.drew) : (Code.region id os.toArray true).wpIn (Fence.wide.inRound l) (n + 1) P Q a w := by
  refine wpIn_region_draw fun t => wpOps_round l ?_ _ _ _ ?_
  · intro i o ho
    have : o ∈ os := by
      have := Array.mem_of_getElem? ho
      simpa using this
    exact List.all_eq_true.1 hd o this
  · simp only [Region.schedule, hm, Bool.true_or, if_true]
    exact wpAnyIn_sound _ t _ a _ (wpAny_wide hlo _ _ _ _ h)

/-- reads and quiet calls, in a round -/
theorem wpIn_quiet_round {n : Nat} {P : Program} {id : Nat} {Q : Exit → Act → World → Prop} {a : Act} {w : World} {os : List Oper} {l : Nat} (hm : P.follows .mixedOrders = true) (hB : Region.lexB .any os.toArray = true) (hd : os.all noDefer = true) (hlo : ¬ LetsOut Q)
    (h : wpQuiet P os.toArray (fun w' => ∃ n, w' = w.drewN n) (fun a' => ∀ w', (∃ n, w' = w.drewN n) → Q .normal a' w') os a) : (Code.region id os.toArray true).wpIn (Fence.wide.inRound l) (n + 1) P Q a w := by
  refine wpIn_region_round hm hd hlo ?_
  simp only [Region.lexB, Bool.and_eq_true] at hB
  refine wpAny_of_quiet (C := fun w' => ∃ n, w' = w.drewN n) (Q := fun a' => ∀ w', (∃ n, w' = w.drewN n) → Q .normal a' w') (fun _ w' hw' h => h w' hw') _ _ _ _ ⟨1, rfl⟩ ?_
  have := wpAnyQ_lex (P := P) (C := fun w' => ∃ n, w' = w.drewN n) (md := .any) hB.1 os 0 (Array.replicate os.toArray.size false) a (by simp) (by simpa using hB.2) h
  simpa using this

/-- reads and quiet calls ahead of a tail, in a round -/
theorem wpIn_tail_round {P : Program} {id m : Nat} {Q : Exit → Act → World → Prop} {a : Act} {w : World} {os : List Oper} {l : Nat} (n : Nat) (hm : P.follows .mixedOrders = true) (hB : Region.lexTailB .any os.toArray n = true) (hd : os.all noDefer = true) (hlo : ¬ LetsOut Q)
    (h : wpStill P os.toArray w.drew (fun a' => wpList P os.toArray Q (os.drop n) a' w.drew) (os.take n) a) : (Code.region id os.toArray true).wpIn (Fence.wide.inRound l) (m + 1) P Q a w := by
  refine wpIn_region_round hm hd hlo ?_
  simp only [Region.lexTailB, Bool.and_eq_true, decide_eq_true_eq] at hB
  obtain ⟨⟨⟨⟨hsel, hn⟩, hs⟩, hc⟩, hlex⟩ := hB
  have htl : (os.take n).length = n := by have : n < os.length := by simpa using hn
                                          simp; omega
  have hdl : (os.drop n).length = os.toArray.size - n := by simp
  have inv0 : HeadInv .any os.toArray n (Array.replicate os.toArray.size false) :=
    ⟨by simp, fun j oj _ hl => (by rw [getD_replicate_false] at hl; cases hl), fun t _ ht => getD_in (by simpa using ht) (getD_replicate_false _ _)⟩
  have H := wpAnyL_lex (md := .any) (g := os.toArray.size - n) hsel hs hc hn (os.take n) 0 _ a (fun j hj => by
    have hj' : j < n := by rw [htl] at hj; exact hj
    simp [hj']) (by simpa using htl) inv0 (by rw [htl]; exact hlex) h
  have := wpAny_of_head (Q' := Q) (g := os.toArray.size - n) (fun listed a' hL => by
    have := wpAny_of_seq (md := .any) (Q' := Q) (os.drop n) n listed a' w.drew (fun j => by simp [List.getElem?_drop]) (by rw [hdl]; exact hL.1) hL.2
    rwa [hdl] at this) _ _ _ H
  rw [htl, show n + (os.toArray.size - n) = os.toArray.size by simp at hn ⊢; omega] at this
  exact this

/-- a move inside a fence -/
theorem wpOpIn_move {F : Fence} {n : Nat} {P : Program} {ops : Array Oper} {Q : Exit → Act → World → Prop} {i : Nat} {o : Oper} {x : Operand} {K : Act → World → Prop} {a : Act} {w : World} (hro : F.round = none) (hi : ops[i]? = some o) (ho : o.op = .move x) (hg : o.guard = none)
    (h : K (a.put o.dst (a.eval x)) w) : wpOpIn F n P ops Q i K a w := by
  refine YieldsFenced.wpOpIn (v := a.eval x) hro hi ⟨.inl ⟨by simp [Region.wanted, hg], fun w => ?_⟩, fun w => ?_⟩ h
  · unfold execOp; rw [ho]; rfl
  · unfold Oper.about; rw [ho]
def yieldB (ops : Array Oper) : Bool :=
  (Region.ready .any ops (Array.replicate ops.size false) == [0, 1]) && (Region.ready .any ops ((Array.replicate ops.size false).setIfInBounds 0 true) == [1]) &&
  (Region.ready .any ops ((Array.replicate ops.size false).setIfInBounds 1 true) == [0]) && (Region.ready .any ops (((Array.replicate ops.size false).setIfInBounds 0 true).setIfInBounds 1 true) == [2]) &&
  Region.noSelect ops && Region.lexFrom .any ops (ops.size - 3) 3 ((((Array.replicate ops.size false).setIfInBounds 0 true).setIfInBounds 1 true).setIfInBounds 2 true)
/-- two moves, then a yield (or another call), then reads -/
theorem wpIn_region_yield {F : Fence} {n : Nat} {P : Program} {id : Nat} {Q : Exit → Act → World → Prop} {a : Act} {w : World} {o0 o1 o2 : Oper} {rest : List Oper} {x0 x1 : Operand} (hro : F.round = none) (hm : P.follows .mixedOrders = true)
    (h0 : o0.op = .move x0) (h1 : o1.op = .move x1) (g0 : o0.guard = none) (g1 : o1.guard = none) (g2 : o2.guard = none) (hB : yieldB (o0 :: o1 :: o2 :: rest).toArray = true)
    (hc : (a.put o1.dst (a.eval x1)).put o0.dst ((a.put o1.dst (a.eval x1)).eval x0) = (a.put o0.dst (a.eval x0)).put o1.dst ((a.put o0.dst (a.eval x0)).eval x1))
    (h : o2.wpIn F n P ((a.put o0.dst (a.eval x0)).put o1.dst ((a.put o0.dst (a.eval x0)).eval x1)) w.drew (fun a' w' => wpQuietIn F n P (o0 :: o1 :: o2 :: rest).toArray (fun w'' => w'' = w') (fun a'' => Q .normal a'' w') rest a') Q) :
    (Code.region id (o0 :: o1 :: o2 :: rest).toArray true).wpIn F n P Q a w := by
  refine wpIn_region_any hm ?_
  have hsz : (o0 :: o1 :: o2 :: rest).toArray.size = rest.length + 1 + 1 + 1 := by simp
  have e0 : (o0 :: o1 :: o2 :: rest).toArray[0]? = some o0 := by simp
  have e1 : (o0 :: o1 :: o2 :: rest).toArray[1]? = some o1 := by simp
  have e2 : (o0 :: o1 :: o2 :: rest).toArray[2]? = some o2 := by simp
  have er : ∀ j, rest[j]? = (o0 :: o1 :: o2 :: rest).toArray[3 + j]? := fun j => by
    simp [show 3 + j = j + 1 + 1 + 1 by omega]
  generalize hops : (o0 :: o1 :: o2 :: rest).toArray = ops at *
  unfold yieldB at hB
  simp only [Bool.and_eq_true, beq_iff_eq] at hB
  obtain ⟨⟨⟨⟨⟨b0, b1⟩, b2⟩, b3⟩, b4⟩, b5⟩ := hB
  rw [show ops.size - 3 = rest.length by omega] at b5
  have last : wpAnyIn F n P .any ops Q (rest.length + 1) (((Array.replicate ops.size false).setIfInBounds 0 true).setIfInBounds 1 true) ((a.put o0.dst (a.eval x0)).put o1.dst ((a.put o0.dst (a.eval x0)).eval x1)) w.drew := by
    refine wpAnyIn_ready b3 (by simp) (AllReadyIn.cons e2 (fun K hK => ?_) AllReadyIn.nil)
    rw [if_pos (by simp [Region.wanted, g2])]
    refine Oper.wpIn_mono (fun a' w' h' => hK a' w' ?_) h
    refine wpAnyIn_of_quiet (C := fun w'' => w'' = w') (Q := fun a'' => Q .normal a'' w') hro (fun _ w'' hw'' h => hw'' ▸ h) _ _ _ _ rfl ?_
    exact wpAnyQIn_lex b4 rest 3 _ a' er b5 h'
  suffices H : ∀ f, f = rest.length + 1 + 1 + 1 → wpAnyIn F n P .any ops Q f (Array.replicate ops.size false) a w.drew from H _ hsz
  rintro f rfl
  refine wpAnyIn_all b0 (by simp) fun i hi => ?_
  have hi' : i = 0 ∨ i = 1 := by simpa using hi
  rcases hi' with rfl | rfl
  · refine wpOpIn_move hro e0 h0 g0 ?_
    refine wpAnyIn_all b1 (by simp) fun i hi => ?_
    obtain rfl : i = 1 := by simpa using hi
    exact wpOpIn_move hro e1 h1 g1 last
  · refine wpOpIn_move hro e1 h1 g1 ?_
    refine wpAnyIn_all b2 (by simp) fun i hi => ?_
    obtain rfl : i = 0 := by simpa using hi
    refine wpOpIn_move hro e0 h0 g0 ?_
    rw [hc, Array.setIfInBounds_comm _ _ (by omega)]
    exact last
end Go.Proofs.Ytkigoihdmojpfaa
