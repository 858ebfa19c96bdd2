/- Contract: heard. -/
import Derived.Test.YtahkhecfnimdbaaDoorK2
import Derived.RegionTactic
import Derived.ChangeAlike
import Derived.Deep.RegionHeld3
import Derived.BigRegion
namespace Go.Proofs.YtahkhecfnimdbaaDoor
open Go.RowKit

theorem grown_below {w W : World} {row : Option Nat} (hb : Below w.heap.size w W) : w.grownBy W row := ⟨hb.os, hb.tape, hb.output, hb.size, fun j hj _ => hb.block j hj⟩

/-- how a neighbour stands when it was heard of -/
def heardR (T : List Rec) (f a now bad : Int) : Rec := ⟨f, a, now, addC (getR T f a).good 1, addC (getR T f a).bad bad⟩

set_option maxRecDepth 100000 in
set_option maxHeartbeats 4000000 in
theorem heard_any (p m : Nat) (T : List Rec) (now lost f a bad : Int) (w : World) (h : NS w p m T now lost) (hk : KB f a) (b0 : 0 ≤ bad) (b1 : bad ≤ 9223372036854775807) (hl : T.length < 1000) (hn : -9223372036854775808 ≤ now ∧ now ≤ 9223372036854775807) :
    Calls Tryd.prog 29 #[.pointer (some ⟨p, 0, none⟩), .agg #[.int .i64 f, .int .u32 a], .int .i64 bad] w fun e w' => (∃ v, e = .returned v) ∧ NS w' p m (upR T (heardR T f a now bad)) now lost ∧ w.grownBy w' (some m) := by
  have c0 := h.c0
  have c1 := h.c1
  have q1 : Below w.heap.size w (w.alloc (Obj.cells #[Value.int IntKind.i64 f, Value.int IntKind.u32 a] 66)).drew := ((Below.refl _ w).alloc (Nat.le_refl _) _).drew
  have q2 : Below w.heap.size w ((w.alloc (Obj.cells #[Value.int IntKind.i64 f, Value.int IntKind.u32 a] 66)).alloc (Obj.cells #[Value.int IntKind.i64 0, Value.int IntKind.u32 0, Value.int IntKind.i64 0, Value.int IntKind.i64 0, Value.int IntKind.i64 0] 71)).drew := (((Below.refl _ w).alloc (Nat.le_refl _) _).alloc (by simp) _).drew
  have hlk1 := (h.below q1).look1 f a hk
  have hlk2 := (h.below q2).look1 f a hk
  have hplt := h.plt
  have hmlt := h.mlt
  have H := Lib.hid h
  clear h
  generalize hg : getR T f a = g at *
  have Hg := Lib.hid hg
  have hgw : 0 ≤ g.good ∧ g.good ≤ 2147483647 ∧ 0 ≤ g.bad ∧ g.bad ≤ 2147483647 := by
    rw [← hg]
    unfold getR
    cases hf : T.find? (atR f a) with
    | none => decide
    | some r =>
      have := H.out.wf r (List.mem_of_find?_eq_some hf)
      exact ⟨this.good.1, this.good.2, this.bad.1, this.bad.2⟩
  have HW : Hid (heardR T f a now bad).Wf := Lib.hid (by
    have e1 : 0 ≤ addC g.good 1 ∧ addC g.good 1 ≤ 2147483647 := by unfold addC; split <;> omega
    have e2 : 0 ≤ addC g.bad bad ∧ addC g.bad bad ≤ 2147483647 := by unfold addC; split <;> omega
    rw [← hg] at e1 e2
    exact ⟨hk, hn, e1, e2⟩)
  clear hg
  simp only [recV, keyV] at hlk1 hlk2
  clear q1 q2
  go_enter Tryd.func29, Tryd.ntmps29
  go_wp2_with fail
  go_region
  all_goals
    clear hlk1 hlk2
    have q3 : Below w.heap.size w ((w.alloc (Obj.cells #[Value.int IntKind.i64 f, Value.int IntKind.u32 a] 66)).alloc (Obj.cells #[Value.int IntKind.i64 g.face, Value.int IntKind.u32 g.addr, Value.int IntKind.i64 g.last, Value.int IntKind.i64 g.good, Value.int IntKind.i64 g.bad] 71)).drew := (((Below.refl _ w).alloc (Nat.le_refl _) _).alloc (by simp) _).drew
    have h1 := H.out.below q3
    have k0 : ((w.alloc (Obj.cells #[Value.int IntKind.i64 f, Value.int IntKind.u32 a] 66)).alloc (Obj.cells #[Value.int IntKind.i64 g.face, Value.int IntKind.u32 g.addr, Value.int IntKind.i64 g.last, Value.int IntKind.i64 g.good, Value.int IntKind.i64 g.bad] 71)).drew.cell? ⟨w.heap.size, 0, none⟩ = some (.int .i64 f) := by simp [go_sem]
    have k1 : ((w.alloc (Obj.cells #[Value.int IntKind.i64 f, Value.int IntKind.u32 a] 66)).alloc (Obj.cells #[Value.int IntKind.i64 g.face, Value.int IntKind.u32 g.addr, Value.int IntKind.i64 g.last, Value.int IntKind.i64 g.good, Value.int IntKind.i64 g.bad] 71)).drew.cell? ⟨w.heap.size, 1, none⟩ = some (.int .u32 a) := by simp [go_sem]
    have k2 : ((w.alloc (Obj.cells #[Value.int IntKind.i64 f, Value.int IntKind.u32 a] 66)).alloc (Obj.cells #[Value.int IntKind.i64 g.face, Value.int IntKind.u32 g.addr, Value.int IntKind.i64 g.last, Value.int IntKind.i64 g.good, Value.int IntKind.i64 g.bad] 71)).drew.cell? ⟨w.heap.size + 1, 3, none⟩ = some (.int .i64 g.good) := by simp [go_sem]
    have k3 : ((w.alloc (Obj.cells #[Value.int IntKind.i64 f, Value.int IntKind.u32 a] 66)).alloc (Obj.cells #[Value.int IntKind.i64 g.face, Value.int IntKind.u32 g.addr, Value.int IntKind.i64 g.last, Value.int IntKind.i64 g.good, Value.int IntKind.i64 g.bad] 71)).drew.cell? ⟨w.heap.size + 1, 4, none⟩ = some (.int .i64 g.bad) := by simp [go_sem]
    have hsW : ((w.alloc (Obj.cells #[Value.int IntKind.i64 f, Value.int IntKind.u32 a] 66)).alloc (Obj.cells #[Value.int IntKind.i64 g.face, Value.int IntKind.u32 g.addr, Value.int IntKind.i64 g.last, Value.int IntKind.i64 g.good, Value.int IntKind.i64 g.bad] 71)).drew.heap.size = w.heap.size + 1 + 1 := by simp
    generalize ((w.alloc (Obj.cells #[Value.int IntKind.i64 f, Value.int IntKind.u32 a] 66)).alloc (Obj.cells #[Value.int IntKind.i64 g.face, Value.int IntKind.u32 g.addr, Value.int IntKind.i64 g.last, Value.int IntKind.i64 g.good, Value.int IntKind.i64 g.bad] 71)).drew = W1 at *
    have d0 := h1.c0
    have d1 := h1.c1
    have s1 : w.heap.size + 1 < W1.heap.size := by omega
    have s2 : w.heap.size < W1.heap.size := by omega
    have s3 : p < W1.heap.size := by omega
    have HsW := Lib.hid hsW
    clear hsW c0 c1
    obtain ⟨F, hF⟩ : ∃ F : World → World, ∀ W, NS W p m T now lost → (Instr.mapUpdate 62 (.map (some m)) (keyV f a) (recV (heardR T f a now bad))).run Tryd.prog W = .ok () (F W) ∧ NS (F W) p m (upR T (heardR T f a now bad)) now lost ∧ W.grownBy (F W) (some m) := by
      refine ⟨fun W => Classical.epsilon fun W' => (Instr.mapUpdate 62 (.map (some m)) (keyV f a) (recV (heardR T f a now bad))).run Tryd.prog W = .ok () W' ∧ NS W' p m (upR T (heardR T f a now bad)) now lost ∧ W.grownBy W' (some m), fun W hW => ?_⟩
      exact Classical.epsilon_spec (hW.store (heardR T f a now bad) HW.out (by omega))
    have hup : ∀ W, NS W p m T now lost → (Instr.mapUpdate 62 (.map (some m)) (.agg #[.int .i64 f, .int .u32 a]) (.agg #[.int .i64 f, .int .u32 a, .int .i64 now, .int .i64 (addC g.good 1), .int .i64 (addC g.bad bad)])).run Tryd.prog W = .ok () (F W) := by
      intro W hW
      have := (hF W hW).1
      unfold keyV recV heardR at this
      rw [Hg.out] at this
      exact this
    have hpm : p ≠ m := h1.ne
    have nx : NS ((W1.alloc (Obj.cells #[Value.int IntKind.i64 g.good, Value.int IntKind.i64 1] 3)).alloc (Obj.cells #[Value.int IntKind.i64 g.bad, Value.int IntKind.i64 bad] 3)).drew p m T now lost := h1.below ((((Below.refl _ W1).alloc (Nat.le_refl _) _).alloc (by simp) _).drew)
    have gx := (hF _ nx).2.2
    have ux := hup _ nx
    have ex0 : (F ((W1.alloc (Obj.cells #[Value.int IntKind.i64 g.good, Value.int IntKind.i64 1] 3)).alloc (Obj.cells #[Value.int IntKind.i64 g.bad, Value.int IntKind.i64 bad] 3)).drew).cell? ⟨p, 0, none⟩ = some (.map (some m)) := gx.cell (by simp [World.cell?_alloc_some, d0]) (by simp; omega)
    have ex1 : (F ((W1.alloc (Obj.cells #[Value.int IntKind.i64 g.good, Value.int IntKind.i64 1] 3)).alloc (Obj.cells #[Value.int IntKind.i64 g.bad, Value.int IntKind.i64 bad] 3)).drew).cell? ⟨p, 1, none⟩ = some (.int .i64 now) := gx.cell (by simp [World.cell?_alloc_some, d1]) (by simp; omega)
    have ex2 : (F ((W1.alloc (Obj.cells #[Value.int IntKind.i64 g.good, Value.int IntKind.i64 1] 3)).alloc (Obj.cells #[Value.int IntKind.i64 g.bad, Value.int IntKind.i64 bad] 3)).drew).cell? ⟨w.heap.size, 0, none⟩ = some (.int .i64 f) := gx.cell (by simp [World.cell?_alloc_some, k0]) (by simp; omega)
    have ex3 : (F ((W1.alloc (Obj.cells #[Value.int IntKind.i64 g.good, Value.int IntKind.i64 1] 3)).alloc (Obj.cells #[Value.int IntKind.i64 g.bad, Value.int IntKind.i64 bad] 3)).drew).cell? ⟨w.heap.size, 1, none⟩ = some (.int .u32 a) := gx.cell (by simp [World.cell?_alloc_some, k1]) (by simp; omega)
    have ex4 : (F ((W1.alloc (Obj.cells #[Value.int IntKind.i64 g.good, Value.int IntKind.i64 1] 3)).alloc (Obj.cells #[Value.int IntKind.i64 g.bad, Value.int IntKind.i64 bad] 3)).drew).cell? ⟨w.heap.size + 1, 3, none⟩ = some (.int .i64 g.good) := gx.cell (by simp [World.cell?_alloc_some, k2]) (by simp; omega)
    have ex5 : (F ((W1.alloc (Obj.cells #[Value.int IntKind.i64 g.good, Value.int IntKind.i64 1] 3)).alloc (Obj.cells #[Value.int IntKind.i64 g.bad, Value.int IntKind.i64 bad] 3)).drew).cell? ⟨w.heap.size + 1, 4, none⟩ = some (.int .i64 g.bad) := gx.cell (by simp [World.cell?_alloc_some, k3]) (by simp; omega)
    have Nx := Lib.hid nx
    have Gx := Lib.hid ((grown_below (((q3.alloc (by omega) _).alloc (by simp; omega) _).drew)).trans gx)
    clear nx gx
    have ny : NS ((W1.alloc (Obj.cells #[Value.int IntKind.i64 g.bad, Value.int IntKind.i64 bad] 3)).alloc (Obj.cells #[Value.int IntKind.i64 g.good, Value.int IntKind.i64 1] 3)).drew p m T now lost := h1.below ((((Below.refl _ W1).alloc (Nat.le_refl _) _).alloc (by simp) _).drew)
    have gy := (hF _ ny).2.2
    have uy := hup _ ny
    have ey0 : (F ((W1.alloc (Obj.cells #[Value.int IntKind.i64 g.bad, Value.int IntKind.i64 bad] 3)).alloc (Obj.cells #[Value.int IntKind.i64 g.good, Value.int IntKind.i64 1] 3)).drew).cell? ⟨p, 0, none⟩ = some (.map (some m)) := gy.cell (by simp [World.cell?_alloc_some, d0]) (by simp; omega)
    have ey1 : (F ((W1.alloc (Obj.cells #[Value.int IntKind.i64 g.bad, Value.int IntKind.i64 bad] 3)).alloc (Obj.cells #[Value.int IntKind.i64 g.good, Value.int IntKind.i64 1] 3)).drew).cell? ⟨p, 1, none⟩ = some (.int .i64 now) := gy.cell (by simp [World.cell?_alloc_some, d1]) (by simp; omega)
    have ey2 : (F ((W1.alloc (Obj.cells #[Value.int IntKind.i64 g.bad, Value.int IntKind.i64 bad] 3)).alloc (Obj.cells #[Value.int IntKind.i64 g.good, Value.int IntKind.i64 1] 3)).drew).cell? ⟨w.heap.size, 0, none⟩ = some (.int .i64 f) := gy.cell (by simp [World.cell?_alloc_some, k0]) (by simp; omega)
    have ey3 : (F ((W1.alloc (Obj.cells #[Value.int IntKind.i64 g.bad, Value.int IntKind.i64 bad] 3)).alloc (Obj.cells #[Value.int IntKind.i64 g.good, Value.int IntKind.i64 1] 3)).drew).cell? ⟨w.heap.size, 1, none⟩ = some (.int .u32 a) := gy.cell (by simp [World.cell?_alloc_some, k1]) (by simp; omega)
    have ey4 : (F ((W1.alloc (Obj.cells #[Value.int IntKind.i64 g.bad, Value.int IntKind.i64 bad] 3)).alloc (Obj.cells #[Value.int IntKind.i64 g.good, Value.int IntKind.i64 1] 3)).drew).cell? ⟨w.heap.size + 1, 3, none⟩ = some (.int .i64 g.good) := gy.cell (by simp [World.cell?_alloc_some, k2]) (by simp; omega)
    have ey5 : (F ((W1.alloc (Obj.cells #[Value.int IntKind.i64 g.bad, Value.int IntKind.i64 bad] 3)).alloc (Obj.cells #[Value.int IntKind.i64 g.good, Value.int IntKind.i64 1] 3)).drew).cell? ⟨w.heap.size + 1, 4, none⟩ = some (.int .i64 g.bad) := gy.cell (by simp [World.cell?_alloc_some, k3]) (by simp; omega)
    have Ny := Lib.hid ny
    have Gy := Lib.hid ((grown_below (((q3.alloc (by omega) _).alloc (by simp; omega) _).drew)).trans gy)
    clear ny gy
    have HF := Lib.hid hF
    clear hF hup
    have H1 := Lib.hid h1
    clear h1
    have A1 := Lib.hid (fun (b : Nat) (W : World) => added2 b g.good 1 W hgw.1 hgw.2.1 (by omega) (by omega))
    have A2 := Lib.hid (fun (b : Nat) (W : World) => added2 b g.bad bad W hgw.2.2.1 hgw.2.2.2 b0 b1)
    have z0 := A1.out W1.heap.size (W1.alloc (Obj.cells #[Value.int IntKind.i64 g.good, Value.int IntKind.i64 1] 3)).drew (by simp [go_sem]) (by simp [go_sem])
    have z1 := A1.out W1.heap.size ((W1.alloc (Obj.cells #[Value.int IntKind.i64 g.good, Value.int IntKind.i64 1] 3)).alloc (Obj.cells #[Value.int IntKind.i64 g.bad, Value.int IntKind.i64 bad] 3)).drew (by simp [go_sem]) (by simp [go_sem])
    have z2 := A2.out (W1.heap.size + 1) ((W1.alloc (Obj.cells #[Value.int IntKind.i64 g.good, Value.int IntKind.i64 1] 3)).alloc (Obj.cells #[Value.int IntKind.i64 g.bad, Value.int IntKind.i64 bad] 3)).drew (by simp [go_sem]) (by simp [go_sem])
    have z3 := A1.out (W1.heap.size + 1) ((W1.alloc (Obj.cells #[Value.int IntKind.i64 g.bad, Value.int IntKind.i64 bad] 3)).alloc (Obj.cells #[Value.int IntKind.i64 g.good, Value.int IntKind.i64 1] 3)).drew (by simp [go_sem]) (by simp [go_sem])
    have z4 := A2.out W1.heap.size ((W1.alloc (Obj.cells #[Value.int IntKind.i64 g.bad, Value.int IntKind.i64 bad] 3)).alloc (Obj.cells #[Value.int IntKind.i64 g.good, Value.int IntKind.i64 1] 3)).drew (by simp [go_sem]) (by simp [go_sem])
    have z5 := A2.out W1.heap.size (W1.alloc (Obj.cells #[Value.int IntKind.i64 g.bad, Value.int IntKind.i64 bad] 3)).drew (by simp [go_sem]) (by simp [go_sem])
    go_wp2_with fail
    go_region_held3 (fun w' => w'.cell? ⟨p, 0, none⟩ = some (.map (some m)) ∧ w'.cell? ⟨p, 1, none⟩ = some (.int .i64 now) ∧ w'.cell? ⟨w.heap.size, 0, none⟩ = some (.int .i64 f) ∧ w'.cell? ⟨w.heap.size, 1, none⟩ = some (.int .u32 a) ∧ w'.cell? ⟨w.heap.size + 1, 3, none⟩ = some (.int .i64 g.good) ∧ w'.cell? ⟨w.heap.size + 1, 4, none⟩ = some (.int .i64 g.bad))
      (go_keep)
      (first | (with_reducible refine z0.mono ?_; rintro e w' ⟨rfl, rfl⟩) | (with_reducible refine z1.mono ?_; rintro e w' ⟨rfl, rfl⟩) | (with_reducible refine z2.mono ?_; rintro e w' ⟨rfl, rfl⟩) | (with_reducible refine z3.mono ?_; rintro e w' ⟨rfl, rfl⟩) | (with_reducible refine z4.mono ?_; rintro e w' ⟨rfl, rfl⟩) | (with_reducible refine z5.mono ?_; rintro e w' ⟨rfl, rfl⟩))
    all_goals
      go_wp2
      first
        | exact bodyPost_end (results_none rfl _ _ _) rfl ⟨⟨_, rfl⟩, (HF.out _ Nx.out).2.1, Gx.out⟩
        | exact bodyPost_end (results_none rfl _ _ _) rfl ⟨⟨_, rfl⟩, (HF.out _ Ny.out).2.1, Gy.out⟩
end Go.Proofs.YtahkhecfnimdbaaDoor
