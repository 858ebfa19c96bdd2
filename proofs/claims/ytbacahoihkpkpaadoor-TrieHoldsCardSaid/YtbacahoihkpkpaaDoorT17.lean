/- A region in a round that draws its order: one load that is free, the rest in a forced order. No program in sight. -/
import Derived.Test.YtbacahoihkpkpaaDoorT0
import Derived.Test.YtbacahoihkpkpaaDoorA5
import Derived.OrdersHeld
namespace Go.Proofs.YtbacahoihkpkpaaDoor
open Go Go.RowKit

/-- operations in a forced order, S behind each -/
def wpChain (P : Program) (ops : Array Oper) (S : World → Prop) (Q : Exit → Act → World → Prop) : List Oper → Act → World → Prop
  | [], a, w => Q .normal a w
  | o :: rest, a, w => if Region.wanted o (yielded ops a.tmps) = true then o.wp P a w (fun a' w' => S w' ∧ wpChain P ops S Q rest a' w') Q else wpChain P ops S Q rest (a.put o.dst undef) w
theorem wpChain_nil {P : Program} {ops : Array Oper} {S : World → Prop} {Q : Exit → Act → World → Prop} {a : Act} {w : World} (h : Q .normal a w) : wpChain P ops S Q [] a w := h
theorem wpChain_step {P : Program} {ops : Array Oper} {S : World → Prop} {Q : Exit → Act → World → Prop} {o : Oper} {rest : List Oper} {a : Act} {w : World}
    (h : ∀ K' : Act → World → Prop, (∀ a w, S w → wpChain P ops S Q rest a w → K' a w) → if Region.wanted o (yielded ops a.tmps) = true then Oper.wp P o a w K' Q else wpChain P ops S Q rest (a.put o.dst undef) w) : wpChain P ops S Q (o :: rest) a w := by
  have := h (fun a' w' => S w' ∧ wpChain P ops S Q rest a' w') (fun _ _ h1 h2 => ⟨h1, h2⟩)
  exact this

theorem wpAnyH_chain {P : Program} {ops : Array Oper} {S : World → Prop} {Q : Exit → Act → World → Prop} : ∀ (l : List Oper) (k : Nat) (listed : Array Bool) (a : Act) (w : World), S w →
    ops.toList.drop k = l → k + l.length = ops.size → forcedB ops l.length k listed = true → wpChain P ops S Q l a w → wpAnyH P .any ops Q S l.length listed a w
  | [], k, listed, a, w, _, _, hsz, hB, h => by
    have : Region.lexFrom .any ops 0 k listed = true := by
      have e : ops.size - k = 0 := by simp at hsz; omega
      simpa [forcedB, e] using hB
    exact ⟨by simpa [Region.lexFrom] using this, h⟩
  | o :: l, k, listed, a, w, hS, hl, hsz, hB, h => by
    simp only [List.length_cons, forcedB, Bool.and_eq_true, beq_iff_eq] at hB
    have ho : ops[k]? = some o := by
      have := congrArg (fun x => x[0]?) hl
      simpa using this
    have hl' : ops.toList.drop (k + 1) = l := by
      have := congrArg (fun x => x.drop 1) hl
      simpa [Nat.add_comm] using this
    refine wpAnyH_all hB.1 (by simp) fun i hi => ?_
    obtain rfl : i = k := by simpa using hi
    have hn := wpAnyH_chain (P := P) (ops := ops) (S := S) (Q := Q) l (i + 1) (listed.setIfInBounds i true)
    unfold wpOp
    simp only [ho]
    unfold wpChain at h
    split
    · rename_i hw
      rw [if_pos hw] at h
      exact .inl (Oper.wp_mono (fun a' w' h' => ⟨h'.1, hn a' w' h'.1 hl' (by simp at hsz; omega) hB.2 h'.2⟩) h)
    · rename_i hw
      rw [if_neg hw] at h
      exact ⟨hS, hn _ _ hS hl' (by simp at hsz; omega) hB.2 h⟩

def loadB (ops : Array Oper) : Bool := Region.noSelect ops && Region.free .any ops (Array.replicate ops.size false) 0 && (Region.ready .any ops (Array.replicate ops.size false)).contains 0 && forcedB ops (ops.size - 1) 1 ((Array.replicate ops.size false).setIfInBounds 0 true)
/-- a load that is free ahead of a forced chain, in a round -/
theorem wpIn_load_round {P : Program} {id m : Nat} {Q : Exit → Act → World → Prop} {a : Act} {w : World} {o0 : Oper} {os : List Oper} {l : Nat} (S : World → Prop) (v : Value) (hm : P.follows .mixedOrders = true) (hB : loadB (o0 :: os).toArray = true) (hd : (o0 :: os).all noDefer = true) (hlo : ¬ LetsOut Q)
    (hQ : ∀ c a w, Q (.panic c) (a.put o0.dst v) w → Q (.panic c) a w) (hg : o0.guard = none) (hv : ∀ w', S w' → (execOp a.eval o0).run P w' = .ok (.value v) w') (hS : S w.drew)
    (h : wpChain P (o0 :: os).toArray S Q os (a.put o0.dst v) w.drew) : (Code.region id (o0 :: os).toArray true).wpIn (Fence.wide.inRound l) (m + 1) P Q a w := by
  refine wpIn_region_round hm hd hlo (wpAny_of_held (S := S) _ _ _ _ ?_)
  simp only [loadB, Bool.and_eq_true] at hB
  obtain ⟨⟨⟨b1, b2⟩, b3⟩, b4⟩ := hB
  have hsz : (o0 :: os).toArray.size = os.length + 1 := by simp
  have e0 : (o0 :: os).toArray[0]? = some o0 := by simp
  have hdr : (o0 :: os).toArray.toList.drop 1 = os := by simp
  generalize (o0 :: os).toArray = ops at *
  rw [show ops.size - 1 = os.length by omega] at b4
  suffices H : ∀ f, f = os.length + 1 → wpAnyH P .any ops Q S f (Array.replicate ops.size false) a w.drew from H _ hsz
  rintro f rfl
  exact wpAnyH_take (i := 0) e0 b1 b2 b3 hQ (.inl ⟨by simp [Region.wanted, hg], hv⟩) hS (wpAnyH_chain os 1 _ _ _ hS hdr (by omega) b4 h)
end Go.Proofs.YtbacahoihkpkpaaDoor
