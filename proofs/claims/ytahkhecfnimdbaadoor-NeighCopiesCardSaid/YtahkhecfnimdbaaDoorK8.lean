/- Contracts: drop, Forget, Since. -/
import Derived.Test.YtahkhecfnimdbaaDoorK7
namespace Go.Proofs.YtahkhecfnimdbaaDoor
open Go.RowKit Go.Maps

abbrev rV (r : Rec) : Value := .agg #[.int .i64 r.face, .int .u32 r.addr, .int .i64 r.last, .int .i64 r.good, .int .i64 r.bad]

set_option maxHeartbeats 4000000 in
theorem Forget1_any (r : Rec) (q : Nat) (f : Int) (w : World) (hq : w.cell? ⟨q, 0, none⟩ = some (.int .i64 f)) :
    Calls Tryd.prog 31 #[rV r, .pointer (some ⟨q, 0, none⟩)] w fun e w' => e = .returned (.bool (decide (r.face = f))) ∧ w.grownBy w' none := by
  have hlt := lt_cell hq
  go_enter Tryd.func31, Tryd.ntmps31
  go_wp2_with fail
  go_ret
  exact ⟨rfl, World.grownBy_alloc w _ none⟩
set_option maxHeartbeats 4000000 in
theorem Since1_any (r : Rec) (q : Nat) (f : Int) (w : World) (hq : w.cell? ⟨q, 0, none⟩ = some (.int .i64 f)) :
    Calls Tryd.prog 32 #[rV r, .pointer (some ⟨q, 0, none⟩)] w fun e w' => e = .returned (.bool (decide (r.last < f))) ∧ w.grownBy w' none := by
  have hlt := lt_cell hq
  go_enter Tryd.func32, Tryd.ntmps32
  go_wp2_with fail
  go_ret
  exact ⟨rfl, World.grownBy_alloc w _ none⟩

set_option maxHeartbeats 4000000 in
set_option maxRecDepth 100000 in
theorem drop1_any (g q bx : Nat) (pr : Rec → Bool) (f a : Int) (r : Rec) (w : World) (hb : w.cell? ⟨bx, 0, none⟩ = some (.func (.func g) #[] #[.pointer (some ⟨q, 0, none⟩)]))
    (eg : ∀ args w, (callFunc g args).run Tryd.prog w = .ok (.enter g args) w)
    (hg : ∀ W, w.grownBy W none → Calls Tryd.prog g #[rV r, .pointer (some ⟨q, 0, none⟩)] W fun e w' => e = .returned (.bool (pr r)) ∧ W.grownBy w' none) :
    Calls Tryd.prog 43 #[.agg #[.int .i64 f, .int .u32 a], rV r, .pointer (some ⟨bx, 0, none⟩)] w fun e w' => e = .returned (.bool (pr r)) ∧ w.grownBy w' none := by
  have hlt := lt_cell hb
  have G := (World.grownBy_alloc w (kObj f a) none).trans (World.grownBy_alloc (w.alloc (kObj f a)) (rObj r) none)
  have Hc := Lib.hid (hg _ G)
  have HG := Lib.hid G
  clear hg G
  have EG := Lib.hid eg
  clear eg
  go_enter Tryd.func43, Tryd.ntmps43
  go_wp2_with fail
  have eg := EG.out
  go_simp
  clear eg
  refine Hc.out.mono ?_
  rintro e w2 ⟨rfl, hg2⟩
  have hg3 := Lib.hid (HG.out.trans hg2)
  clear hg2
  go_wp2_with fail
  go_ret
  exact ⟨rfl, hg3.out⟩

/-- what a predicate says, on data -/
def prD (pr : Rec → Bool) (d : DataW Unit) : Bool := match d with
  | .agg [.lit (.int .i64 f), .lit (.int .u32 a), .lit (.int .i64 l), .lit (.int .i64 g), .lit (.int .i64 b)] => pr ⟨f, a, l, g, b⟩
  | _ => false
theorem prD_rec (pr : Rec → Bool) (r : Rec) : prD pr (recD r) = pr r := rfl

theorem enter31 (args : Array Value) (w : World) : (callFunc 31 args).run Tryd.prog w = .ok (.enter 31 args) w := by go_simp
theorem enter32 (args : Array Value) (w : World) : (callFunc 32 args).run Tryd.prog w = .ok (.enter 32 args) w := by go_simp
theorem enter43 (args : Array Value) (w : World) : (callFunc 43 args).run Tryd.prog w = .ok (.enter 43 args) w := by go_simp

theorem NS.dropped {W W' : World} {p m : Nat} {T : List Rec} {now lost : Int} (h : NS W p m T now lost) (pr : Rec → Bool) {D : DataW Unit} (ht : Tab klR recD D T) {n : Nat}
    (ho : W'.ownsMap Tryd.prog 66 recR m n (Lib.deleteFuncD (fun _ d => prD pr d) D)) (hg : W.grownBy W' (some m)) : NS W' p m (T.filter fun r => !pr r) now lost :=
  NS.of ((hg.block p h.plt (fun e => h.ne (Option.some.inj e))).trans h.box) ho (ht.filter _ pr (fun r _ => prD_rec pr r)) (fun r hr => h.wf r (List.mem_filter.1 hr).1)

set_option maxHeartbeats 4000000 in
set_option maxRecDepth 100000 in
theorem drop_any (g q : Nat) (pr : Rec → Bool) (p m : Nat) (T : List Rec) (now lost f : Int) (w : World) (h : NS w p m T now lost) (hq : w.cell? ⟨q, 0, none⟩ = some (.int .i64 f)) (hqm : q ≠ m) (hT : T.length < 1000)
    (eg : ∀ args w, (callFunc g args).run Tryd.prog w = .ok (.enter g args) w)
    (hg : ∀ (W : World) (r : Rec), W.cell? ⟨q, 0, none⟩ = some (.int .i64 f) → Calls Tryd.prog g #[rV r, .pointer (some ⟨q, 0, none⟩)] W fun e w' => e = .returned (.bool (pr r)) ∧ W.grownBy w' none) :
    Calls Tryd.prog 30 #[.pointer (some ⟨p, 0, none⟩), .func (.func g) #[] #[.pointer (some ⟨q, 0, none⟩)]] w
      fun e w' => e = .returned (.int .i64 (T.length - (T.filter fun r => !pr r).length)) ∧ NS w' p m (T.filter fun r => !pr r) now lost ∧ w.grownBy w' (some m) := by
  have c0 := h.c0
  have hplt := h.plt
  have hmlt := h.mlt
  have B := below_k w (.cells #[.func (.func g) #[] #[.pointer (some ⟨q, 0, none⟩)]] 76)
  have hn1 := h.below B
  have hlen := hn1.len
  obtain ⟨D, ho, ht⟩ := hn1.map
  have bx : (w.alloc (.cells #[.func (.func g) #[] #[.pointer (some ⟨q, 0, none⟩)]] 76)).cell? ⟨w.heap.size, 0, none⟩ = some (.func (.func g) #[] #[.pointer (some ⟨q, 0, none⟩)]) := by simp [go_sem]
  have q1 := cell_below B hq
  have HD := Lib.hid (DeleteFunc_any (fun _ d => prD pr d) 43 #[.pointer (some ⟨w.heap.size, 0, none⟩)] m T.length D _ enter43 ho (by
    intro W key val kl yd yp hW hk hv
    obtain ⟨⟨f', a'⟩, rfl⟩ := key66_inv _ _ hk
    obtain ⟨r, rfl⟩ := rec71_inv _ _ hv
    have e1 : yd = recD r := by
      have := recR_mk r
      unfold recV at this
      rw [this] at hv
      exact (Prod.mk.inj (Option.some.inj hv)).1.symm
    subst e1
    have := drop1_any g q w.heap.size pr f' a' r W (hW.cell bx (by simp; omega)) eg (fun W2 h2 => hg W2 r (h2.cell (hW.cell q1 (by simp; exact hqm)) (by simp)))
    exact this))
  have H1 := Lib.hid hn1
  have Ht := Lib.hid ht
  have HB := Lib.hid B
  clear hn1 ho ht h B hg eg q1 hq bx
  go_enter Tryd.func30, Tryd.ntmps30
  go_wp2_with (first | (go_at_call 26; refine (none_t _ _ _ _ _ _ H1.out).mono ?_; rintro e w' ⟨rfl, rfl⟩) | (go_at_call 42; refine HD.out.mono ?_; rintro e w2 ⟨rfl, ho2, hg2⟩; have n2 := H1.out.dropped pr Ht.out ho2 hg2; have d0 := n2.c0; have hlen2 := n2.len; have N2 := Lib.hid n2; have G2 := Lib.hid hg2; clear ho2 n2 hg2))
  go_ret
  have hle := List.length_filter_le (fun r => !pr r) T
  exact ⟨ret_int (IntWalk.wrap64_in _ (by omega)), N2.out, (grown_below HB.out).trans G2.out⟩

def forgetT (f : Int) (T : List Rec) : List Rec := T.filter fun r => !decide (r.face = f)
def sinceT (t : Int) (T : List Rec) : List Rec := T.filter fun r => !decide (r.last < t)
set_option maxHeartbeats 4000000 in
set_option maxRecDepth 100000 in
theorem Forget_any (p m : Nat) (T : List Rec) (now lost f : Int) (w : World) (h : NS w p m T now lost) (hT : T.length < 1000) :
    Calls Tryd.prog 12 #[.pointer (some ⟨p, 0, none⟩), .int .i64 f] w
      fun e w' => e = .returned (.int .i64 (T.length - (forgetT f T).length)) ∧ NS w' p m (forgetT f T) now lost ∧ w.grownBy w' (some m) := by
  have B := below_k w (.cells #[.int .i64 f] 3)
  have hmlt := h.mlt
  have hd := Lib.hid (drop_any 31 w.heap.size (fun r => decide (r.face = f)) p m T now lost f _ (h.below B) (by simp [go_sem]) (by omega) hT enter31 (fun W r hq => Forget1_any r _ f W hq))
  have HB := Lib.hid B
  clear B h
  go_enter Tryd.func12, Tryd.ntmps12
  go_wp2_with (go_at_call 30; refine hd.out.mono ?_; rintro e w2 ⟨rfl, hn, hg⟩; have N2 := Lib.hid hn; have G2 := Lib.hid hg; clear hn hg)
  go_ret
  exact ⟨rfl, N2.out, (grown_below HB.out).trans G2.out⟩
set_option maxHeartbeats 4000000 in
set_option maxRecDepth 100000 in
theorem Since_any (p m : Nat) (T : List Rec) (now lost f : Int) (w : World) (h : NS w p m T now lost) (hT : T.length < 1000) :
    Calls Tryd.prog 13 #[.pointer (some ⟨p, 0, none⟩), .int .i64 f] w
      fun e w' => e = .returned (.int .i64 (T.length - (sinceT f T).length)) ∧ NS w' p m (sinceT f T) now lost ∧ w.grownBy w' (some m) := by
  have B := below_k w (.cells #[.int .i64 f] 2)
  have hmlt := h.mlt
  have hd := Lib.hid (drop_any 32 w.heap.size (fun r => decide (r.last < f)) p m T now lost f _ (h.below B) (by simp [go_sem]) (by omega) hT enter32 (fun W r hq => Since1_any r _ f W hq))
  have HB := Lib.hid B
  clear B h
  go_enter Tryd.func13, Tryd.ntmps13
  go_wp2_with (go_at_call 30; refine hd.out.mono ?_; rintro e w2 ⟨rfl, hn, hg⟩; have N2 := Lib.hid hn; have G2 := Lib.hid hg; clear hn hg)
  go_ret
  exact ⟨rfl, N2.out, (grown_below HB.out).trans G2.out⟩
end Go.Proofs.YtahkhecfnimdbaaDoor
