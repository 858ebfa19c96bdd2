/- A range over a function value that yields in a known order, none of whose rounds leaves: a law by the round's number. -/
import Derived.Test.YtbacahoihkpkpaaDoorT4
namespace Go.Proofs.YtbacahoihkpkpaaDoor
open Go.RowKit Go.Shelf

/-- how a round ends -/
def cPost (B : Nat) (I : World → Prop) (W : World) : Exit → Act → World → Prop
  | .normal, _, W' => KeepsFrom B W W' ∧ I W'
  | _, _, _ => False

/-- the iterator's word: what it yields in its k-th round; what a round must leave readable is R -/
def SeqCount (F : Fence) (n : Nat) (P : Program) (g : Nat) (lb : Array Value) (enc : Nat → Array Value) (R : World → Prop) (N : Nat) (w : World) : Prop :=
  ∀ (l : Nat) (J : Nat → World → Prop) (W : World), Below w.heap.size w W → (∀ k W1, J k W1 → R W1) →
    (∀ k W1, k < N → J k W1 → YieldAt F (n - 1) P l (enc k) W1 fun e W' => e = .returned (.bool true) ∧ J (k + 1) W') →
    J 0 W → CallsIn F n P g (#[.func (.yield l) #[] #[]] ++ lb) W fun e W' => (∃ v, e = .returned v) ∧ J N W'

theorem wpIn_range_count {F : Fence} {n : Nat} {P : Program} {g : Operand} {ps : Array Tmp} {assign body : Code} {Q : Exit → Act → World → Prop} {a : Act} {w : World}
    (hro : F.round = none) (h1 : 1 ≤ n) {gf : Nat} {lb : Array Value} (hg : a.eval g = .func (.func gf) #[] lb) (hFg : F.fn gf) (eg : ∀ args w, (callFunc gf args).run P w = .ok (.enter gf args) w)
    {enc : Nat → Array Value} {R : World → Prop} {N : Nat} (hseq : SeqCount F (n - 1) P gf lb enc R N w) (hps : ∀ k, (enc k).size = ps.size)
    (I : Nat → World → Prop) (hI : OwnFrom w.heap.size I) (hR : ∀ k W, I k W → R W) (h0 : I 0 w) (A : Nat → Act → Prop)
    (hassign : ∀ (l k : Nat) (W : World), k < N → I k W → assign.wpIn (F.inRound l) (n - 1 - 1) P (Exit.then (fun a' W' => W' = W ∧ A k a') (fun _ _ _ => False)) { tmps := (ps.zip (enc k)).foldl (fun t (p, v) => t.setIfInBounds p v) a.tmps, defers := [] } W)
    (hbody : ∀ (l k : Nat) (a' : Act) (W : World), w.heap.size ≤ l → (∃ r, W.heap[l]? = some (.loop r)) → k < N → I k W → A k a' → body.wpIn (F.inRound l) (n - 1 - 1) P (cPost w.heap.size (I (k + 1)) W) a' W)
    (hdone : ∀ (D : Nat) (W : World), w.heap.size ≤ D → I N W → W.heap[D]? = some (.deferred (some [])) → Q .normal { a with defers := { target := .collected D, args := #[] } :: a.defers } W) :
    (Code.rangeFunc g ps assign body).wpIn F n P Q a w := by
  refine wpIn_rangeFunc fun fn hfn => ?_
  rw [hro]
  generalize hz : w.heap.size = z at *
  -- the loop's record, as it is between two rounds and after
  obtain ⟨mk, hmk⟩ : ∃ mk : LoopState → Loop, mk = fun st => { state := st, pending := none, fn, tmps := a.tmps, params := ps, assign, body, defers := z } := ⟨_, rfl⟩
  have henter := run_enterLoop_outer (P := P) (w := w) fn a.tmps ps assign body
  obtain ⟨V, hV⟩ : ∃ V, (w.alloc (.deferred (some []))).alloc (.loop (mk .ready)) = V := ⟨_, rfl⟩
  have hVs : V.heap.size = z + 1 + 1 := by rw [← hV]; simp [hz]
  have hVl : V.heap[z + 1]? = some (.loop (mk .ready)) := by
    rw [← hV]; have := World.alloc_heap_new (w.alloc (.deferred (some []))) (.loop (mk .ready)); rwa [World.size_alloc, hz] at this
  have hVd : V.heap[z]? = some (.deferred (some [])) := by
    rw [← hV]
    exact (Below.heap_alloc _ _ _ (by simp [hz])).trans (by have := World.alloc_heap_new w (.deferred (some [])); rwa [hz] at this)
  have hVI : I 0 V := by rw [← hV]; exact hI.alloc _ (hI.alloc _ h0)
  have hVB : Below w.heap.size w V := by rw [← hV]; exact ((Below.refl _ w).alloc (Nat.le_refl _) _).alloc (by simp) _
  refine ⟨z + 1, [{ target := .collected z, args := #[] }], V, { target := .fn (.func gf) lb, args := #[.func (.yield (z + 1)) #[] #[]] }, V, gf, #[.func (.yield (z + 1)) #[] #[]] ++ lb, V, ?_, ?_, ?_, ?_, fun _ => h1, ?_⟩
  · rw [← hV, hmk, ← hz]; exact henter
  · simp only [resolve, hg]; simp [go_sem]
  · intro f' hf'; simp [Target.leads] at hf'; subst hf'; exact hFg
  · simp [invoke, go_sem, eg]
  refine (hseq (z + 1) (fun k W => I k W ∧ W.heap[z + 1]? = some (.loop (mk .ready)) ∧ W.heap[z]? = some (.deferred (some []))) V hVB (fun k W h => hR k W h.1) ?_ ⟨hVI, hVl, hVd⟩).mono ?_
  · rintro k W hk ⟨hi, hl, hd⟩
    have hlt : z + 1 < W.heap.size := (Array.getElem?_eq_some_iff.1 hl).1
    have hy := run_yield (P := P) (args := enc k) hl (by rw [hmk]; exact hps k)
    rw [hmk] at hy
    refine ⟨fn, _, assign, body, hy, roundIn_of_wpIn hfn (wpIn_mono (hassign (z + 1) k W hk hi) ?_)⟩
    intro e a' W' he
    cases e with
    | normal =>
      obtain ⟨rfl, hA⟩ := he
      refine ⟨_, run_beginRound hl (by rw [hmk]), ?_⟩
      have hl2 : (W'.putObj (z + 1) (.loop { mk .ready with state := .busy })).heap[z + 1]? = some (.loop { mk .ready with state := .busy }) := World.putObj_heap_same hlt
      have hd2 : (W'.putObj (z + 1) (.loop { mk .ready with state := .busy })).heap[z]? = some (.deferred (some [])) := (World.putObj_heap_other (by omega)).trans hd
      refine wpIn_mono (hbody (z + 1) k a' _ (by omega) ⟨_, hl2⟩ hk (hI.putObj _ hi (by omega) hl rfl) hA) ?_
      intro e2 a3 W3 hp
      cases e2 with
      | normal =>
        obtain ⟨hkp, hi3⟩ := hp
        have hl3 := hkp.same _ _ (by omega) hl2 rfl
        have hd3 := hkp.same _ _ (Nat.le_refl _) hd2 rfl
        have hr := run_endRound (P := P) none hl3
        rw [hmk] at hr
        refine ⟨_, _, hr, rfl, hI.putObj _ hi3 (by omega) hl3 rfl, ?_, (World.putObj_heap_other (by omega)).trans hd3⟩
        rw [hmk]
        exact World.putObj_heap_same (Array.getElem?_eq_some_iff.1 hl3).1
      | _ => exact hp.elim
    | _ => exact he.elim
  · rintro e W2 ⟨⟨v, rfl⟩, hi, hl, hd⟩
    have hr := run_endLoop (P := P) hl (by rw [hmk]; simp)
    rw [hmk] at hr
    exact ⟨none, _, hr, hdone z _ (Nat.le_refl _) (hI.putObj _ hi (by omega) hl rfl) ((World.putObj_heap_other (by omega)).trans hd)⟩
end Go.Proofs.YtbacahoihkpkpaaDoor
