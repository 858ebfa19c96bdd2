/- Contract: trie.Get. -/
import Derived.Test.YtbacahoihkpkpaaDoorT9
namespace Go.Proofs.YtbacahoihkpkpaaDoor
open Go.RowKit Go.Shelf

set_option maxHeartbeats 400000 in
theorem Get_nil (pa pn : Int) (w : World) :
    Calls Tryd.prog 20 #[.pointer none, .agg #[.int .u32 pa, .int .i64 pn]] w fun e w' => e = .returned (.tuple #[.int .i64 0, .bool false]) ∧ Below w.heap.size w w' := by
  go_enter Tryd.func20, Tryd.ntmps20
  go_wp2_with (go_at_call 34; with_reducible refine (none_n _).mono ?_; rintro e w' ⟨rfl, rfl⟩)
  go_ret2
  exact ⟨rfl, (Below.refl _ w).alloc (Nat.le_refl _) _⟩

set_option maxHeartbeats 400000 in
theorem Get_arg (q : Nat) (t : TT) (pa pn : Int) (w : World) (h : TrS w q t) (hr : rightB pa pn = false) :
    Calls Tryd.prog 20 #[.pointer (some ⟨q, 0, none⟩), .agg #[.int .u32 pa, .int .i64 pn]] w fun e w' => e = .returned (.tuple #[.int .i64 0, .bool false]) ∧ Below w.heap.size w w' := by
  have b0 : Below w.heap.size w (w.alloc (.cells #[.int .u32 pa, .int .i64 pn] 26)) := (Below.refl _ w).alloc (Nat.le_refl _) _
  have hN := Lib.hid (none_t q t _ (h.below b0))
  have hC := Lib.hid (Check_f pa pn (w.alloc (.cells #[.int .u32 pa, .int .i64 pn] 26)) hr)
  have HB0 := Lib.hid b0
  clear h hr b0
  go_enter Tryd.func20, Tryd.ntmps20
  go_wp2_with (first
    | (go_at_call 34; with_reducible refine hN.out.mono ?_; rintro e w' ⟨rfl, rfl⟩)
    | (go_at_call 36; with_reducible refine hC.out.mono ?_; rintro e w1 ⟨rfl, hb⟩; have HB1 := Lib.hid hb; clear hb))
  go_ret2
  exact ⟨rfl, bthen HB0.out HB1.out⟩

/-- what Get tells -/
def getV : Option Int → Value
  | some u => .tuple #[.int .i64 u, .bool true]
  | none => .tuple #[.int .i64 0, .bool false]

set_option maxRecDepth 100000 in
set_option maxHeartbeats 2000000 in
theorem Get_any (q : Nat) (t : TT) (p : Key) (w : World) (h : TrS w q t) (hR : RelsAt w) (hp : p.length ≤ 32) :
    Calls Tryd.prog 20 #[.pointer (some ⟨q, 0, none⟩), .agg #[.int .u32 (ka p), .int .i64 p.length]] w fun e w' => e = .returned (getV (t.get p)) ∧ Below w.heap.size w w' := by
  have b0 : Below w.heap.size w (w.alloc (.cells #[.int .u32 (ka p), .int .i64 p.length] 26)) := (Below.refl _ w).alloc (Nat.le_refl _) _
  have hN := Lib.hid (none_t q t _ (h.below b0))
  have hC := Lib.hid (Check_t (ka p) p.length (w.alloc (.cells #[.int .u32 (ka p), .int .i64 p.length] 26)) (ka_right hp))
  have hpb : PBox (w.alloc (.cells #[.int .u32 (ka p), .int .i64 p.length] 26)) w.heap.size (ka p) p.length := PBox.new w _ _
  have HPB := Lib.hid hpb
  have HB0 := Lib.hid b0
  have H := Lib.hid h
  have HR := Lib.hid hR
  clear h hR b0 hpb
  go_enter Tryd.func20, Tryd.ntmps20
  go_wp2_with (first
    | (go_at_call 34; with_reducible refine hN.out.mono ?_; rintro e w' ⟨rfl, rfl⟩)
    | (go_at_call 36; with_reducible refine hC.out.mono ?_; rintro e w1 ⟨rfl, hb⟩; have HB1 := Lib.hid (bthen HB0.out hb); have hpb1 := HPB.out.below hb; have d0 := hpb1.c0; have d1 := hpb1.c1; have HPB1 := Lib.hid hpb1; have hst1 := H.out.below HB1.out; clear hb hpb1)
    | (go_at_call 38; refine (place_any q p t hp hst1.keysLen w1 hst1.at hst1.lt (HR.out.below HB1.out)).mono ?_; rintro e w3 ⟨rfl, hb3⟩; have HB3 := Lib.hid hb3; clear hb3
       have hst := hst1.below HB3.out
       have hpb3 := HPB1.out.below HB3.out
       clear hst1 d0 d1
       have hT := hst.cellT p
       have hsn : (t.place p ⟨q, 0, none⟩).spot = none := TT.place_path rfl
       have htop : ∀ b k o l r, t.spot p = TT.node b k o l r → (k = p ∨ ¬ k <+: p) ∧ k ∈ t.keys := fun b k o l r e => ⟨TT.spot_top e, TT.spot_keys e⟩
       have hg := TT.get_spot t p
       obtain ⟨⟨ab, ao, as1⟩, ha⟩ : ∃ a, t.place p ⟨q, 0, none⟩ = a := ⟨_, rfl⟩
       obtain ⟨X, hX⟩ : ∃ X, t.spot p = X := ⟨_, rfl⟩
       rw [ha] at hT hsn ⊢
       simp only at hsn
       subst hsn
       rw [hX] at hT htop hg
       obtain ⟨P, hPp⟩ : ∃ P, X.ptr = P := ⟨_, rfl⟩
       have ca := hT.1
       rw [hPp] at ca
       have HPp := Lib.hid hPp
       clear hPp
       have d0 := hpb3.c0
       have d1 := hpb3.c1
       have HT := Lib.hid hT
       have HSt := Lib.hid hst
       have HTop := Lib.hid htop
       have HG := Lib.hid hg
       clear hT hst hpb3 ha hX htop hg)
    | fail)
  cases X with
  | nil =>
    obtain rfl : P = .pointer none := HPp.out.symm
    go_quiet (fail)
    go_wp2_with fail
    go_ret2
    exact ⟨by rw [HG.out]; rfl, below_drewN (bthen HB1.out HB3.out) _⟩
  | node b k o l r =>
    have n0 := HT.out.2.c0
    have n1 := HT.out.2.c1
    have n2 := HT.out.2.c2
    have n3 := HT.out.2.c3
    obtain rfl : P = .pointer (some ⟨b, 0, none⟩) := HPp.out.symm
    obtain ⟨ht, hkm⟩ := HTop.out b k o l r rfl
    have hk32 := HSt.out.keysLen k hkm
    by_cases hkp : k = p
    · subst hkp
      clear ht
      cases o with
      | none =>
        simp only [Option.isSome_none] at n3
        go_quiet (fail)
        go_wp2_with fail
        go_ret2
        exact ⟨by rw [HG.out]; simp [getV], below_drewN (bthen HB1.out HB3.out) _⟩
      | some u =>
        simp only [Option.isSome_some, Option.getD_some] at n2 n3
        go_quiet (fail)
        go_wp2_with fail
        go_ret2
        exact ⟨by rw [HG.out]; simp [getV], below_drewN (bthen HB1.out HB3.out) _⟩
    · have HKp := Lib.hid hkp
      rcases neq_cases hk32 hkp with h1 | ⟨e1, h1, h2⟩
      · clear ht hkp
        go_quiet (fail)
        go_wp2_with fail
        go_ret2
        exact ⟨by rw [HG.out]; simp only [if_neg HKp.out]; rfl, below_drewN (bthen HB1.out HB3.out) _⟩
      · clear ht hkp
        rw [e1] at n0
        go_quiet (fail)
        go_wp2_with fail
        go_ret2
        exact ⟨by rw [HG.out]; simp only [if_neg HKp.out]; rfl, below_drewN (bthen HB1.out HB3.out) _⟩
end Go.Proofs.YtbacahoihkpkpaaDoor
