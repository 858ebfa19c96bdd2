/- Contract: maps.DeleteFunc at this seat's map. -/
import Derived.Test.YtahkhecfnimdbaaDoorK6
import Derived.Lib.SlMapFilter
import Derived.Maps.Ext
import Derived.Maps.RangeWalk
import Derived.Laws.IdiomRangeMap
import Derived.Deep.LoopGhost
namespace Go.Proofs.YtahkhecfnimdbaaDoor
open Go.RowKit Go.Maps

theorem lits3 (d : Nat) (v : Value) (ls : List Lit) (h : Tryd.prog.keyLits (d + 1) 3 [v] = some ls) : ∃ f, v = .int .i64 f := by
  cases v with
  | int q n =>
    simp [Program.keyLits, Tryd.underlying3] at h
    exact ⟨n, by rw [h.1.1]⟩
  | _ => simp [Program.keyLits, Tryd.underlying3] at h
theorem lits31 (d : Nat) (v : Value) (ls : List Lit) (h : Tryd.prog.keyLits (d + 1) 31 [v] = some ls) : ∃ f, v = .int .u32 f := by
  cases v with
  | int q n =>
    simp [Program.keyLits, Tryd.underlying31] at h
    exact ⟨n, by rw [h.1.1]⟩
  | _ => simp [Program.keyLits, Tryd.underlying31] at h
theorem key66_inv (key : Value) (l : Lit) (h : keyOf Tryd.prog 66 key = some l) : ∃ x : Int × Int, key = keyV x.1 x.2 := by
  have h1 : Tryd.prog.keyType 66 = true := by kernel_rfl
  have h2 : 1 ≤ Tryd.prog.types.size := of_decide_eq_true (by kernel_rfl)
  obtain ⟨n, hn⟩ : ∃ n, Tryd.prog.types.size = n + 1 := ⟨Tryd.prog.types.size - 1, by omega⟩
  have h4 : Tryd.prog.cellsOf 66 = 2 := by kernel_rfl
  have h5 : Tryd.prog.cellsOf 3 = 1 := by kernel_rfl
  have h6 : Tryd.prog.cellsOf 31 = 1 := by kernel_rfl
  unfold keyOf at h
  rw [h1, hn] at h
  simp only [Tryd.underlying66, Bool.true_and] at h
  by_cases hf : key.formed Tryd.prog 66 = true
  · rw [if_pos hf] at h
    cases key with
    | agg cs =>
      simp [Value.formed, Tryd.underlying66, h4] at hf
      obtain ⟨x, y, rfl⟩ : ∃ x y, cs = #[x, y] := by
        obtain ⟨l⟩ := cs
        rcases l with _ | ⟨x, _ | ⟨y, _ | ⟨z, l⟩⟩⟩ <;> simp at hf
        exact ⟨x, y, rfl⟩
      simp only [Value.cells] at h
      rw [Program.keyLits.eq_def] at h
      simp [Tryd.underlying66, h4, h5, h6] at h
      cases e1 : Tryd.prog.keyLits (n + 1) 3 [x] with
      | none => rw [e1] at h; simp at h
      | some l1 =>
        cases e2 : Tryd.prog.keyLits (n + 1) 31 [y] with
        | none => rw [e1, e2] at h; simp at h
        | some l2 =>
          obtain ⟨f, rfl⟩ := lits3 _ _ _ e1
          obtain ⟨a, rfl⟩ := lits31 _ _ _ e2
          exact ⟨(f, a), rfl⟩
    | _ => simp [Value.formed, Tryd.underlying66] at hf
  · rw [if_neg hf] at h
    cases h

abbrev rObj (r : Rec) : Obj := .cells #[.int .i64 r.face, .int .u32 r.addr, .int .i64 r.last, .int .i64 r.good, .int .i64 r.bad] 71
theorem rec71_inv (v : Value) (y : DataW Unit × List MemPlace) (h : recR v = some y) : ∃ r : Rec, v = Value.agg #[.int .i64 r.face, .int .u32 r.addr, .int .i64 r.last, .int .i64 r.good, .int .i64 r.bad] := by
  unfold recR at h
  split at h
  · next f a l g b => exact ⟨⟨f, a, l, g, b⟩, rfl⟩
  · cases h

set_option maxHeartbeats 4000000 in
set_option maxRecDepth 100000 in
theorem DeleteFunc_any (pd : Lit → DataW Unit → Bool) (g : Nat) (cb : Array Value) (b n : Nat) (D : DataW Unit) (w : World)
    (eg : ∀ args w, (callFunc g args).run Tryd.prog w = .ok (.enter g args) w) (hown : w.ownsMap Tryd.prog 66 recR b n D)
    (hdel : ∀ (W : World) (key val : Value) (kl : Lit) (yd : DataW Unit) (yp : List MemPlace), w.grownBy W (some b) → keyOf Tryd.prog 66 key = some kl → recR val = some (yd, yp) →
      Calls Tryd.prog g (#[key, val] ++ cb) W fun e w' => e = .returned (.bool (pd kl yd)) ∧ W.grownBy w' none) :
    Calls Tryd.prog 42 #[.map (some b), .func (.func g) #[] cb] w fun e w' => e = .returned (.tuple #[]) ∧ w'.ownsMap Tryd.prog 66 recR b n (Lib.deleteFuncD pd D) ∧ w.grownBy w' (some b) := by
  obtain ⟨es0, rfl, hap, hkeys⟩ := hown.entries keyed66
  have HD := Lib.hid hdel
  clear hdel
  go_enter Tryd.func42, Tryd.ntmps42
  go_wp2_with (first
    | (at_range; refine wpList_range_own _ rfl _ 62 rfl 66 71 keyed66 Tryd.underlying62 recR b n _ rfl hown ?_; intro w0 hrg0 hg0 hs0)
    | fail)
  go_frame
  go_loopw [8] (fun _ wr => ∃ (left : Lit → Bool) (cnt : Nat), wr.ranges Tryd.prog 66 recR b w.heap.size n (Fk pd es0 left) left cnt ∧ w.grownBy wr (some b))
    (fun _ wr => wr.rangeLeft b w.heap.size)
  case atStart => exact ⟨_, _, by rw [Fk_start hkeys]; exact hrg0, hg0.but _⟩
  case round =>
    obtain ⟨left, cnt, hrg, hgw⟩ := hrel
    go_wp2_with (first
      | (at_next; refine wpList_next_ranges _ rfl _ rfl 66 keyed66 recR (fun x : Int × Int => Value.agg #[.int .i64 x.1, .int .u32 x.2]) (fun r : Rec => Value.agg #[.int .i64 r.face, .int .u32 r.addr, .int .i64 r.last, .int .i64 r.good, .int .i64 r.bad]) key66_inv rec71_inv b w.heap.size n _ _ _ rfl hrg ?_ ?_)
      | fail)
    · intro _ hl0
      go_wp2
      exact bodyPost_end (results_none rfl _ _ _) rfl ⟨rfl, by rw [← Fk_end hl0]; exact hrg.owns, hgw⟩
    · intro f a r kl yd yp w1 cnt1 hkey hlx hv hat hrg1 hlt hg1 hs1 hen
      have hgw1 := hgw.andThen hg1 (fun j hj => by cases hj; exact Or.inl (Nat.le_refl _))
      have hgA : w1.grownBy ((w1.alloc (kObj f a)).alloc (rObj r)) none := (World.grownBy_alloc w1 _ none).trans (World.grownBy_alloc _ _ none)
      have hgwA := hgw1.andThen hgA (fun j hj => by cases hj)
      have hc := HD.out _ _ _ kl yd yp hgwA hkey hv
      have hrgA := hrg1.kept hgA (by simp) (by simp)
      have hbl := hrg1.owns.lt
      have hrl := hrg1.lt
      have Hhat := Lib.hid hat
      have Hhv := Lib.hid hv
      have Hkey := Lib.hid hkey
      have Hown := Lib.hid hown
      have Hhap := Lib.hid hap
      have Hhkeys := Lib.hid hkeys
      have HrgA := Lib.hid hrgA
      have HgwA := Lib.hid hgwA
      have Hhrg := Lib.hid hrg
      have Hlx := Lib.hid hlx
      have Hlt := Lib.hid hlt
      clear hat hv hkey hown hap hkeys hrgA hgwA hrg hlx hlt hgA hgw1 hs1 hg1 hrg1 hgw hrg0 hg0 hs0 hbl hrl
      cases hp : pd kl yd <;> rw [hp] at hc <;> have Hc := Lib.hid hc <;> clear hc <;> have Hp := Lib.hid hp <;> clear hp
      · have EG := Lib.hid eg
        clear eg
        go_wp2_with fail
        have eg := EG.out
        go_simp
        clear eg
        refine Hc.out.mono ?_
        rintro e w2 ⟨rfl, hg2⟩
        have hrg2 := HrgA.out.kept hg2 (by simp) (by simp)
        have Hg2 := Lib.hid hg2
        have Hrg2 := Lib.hid hrg2
        clear hg2 hrg2
        go_wp2_with fail
        go_roundw
        case rel => exact ⟨_, cnt1, by rw [← Fk_stays Hhap.out (keyed66.key Hkey.out) Hlx.out Hp.out Hhat.out]; exact Hrg2.out, HgwA.out.andThen Hg2.out (fun j hj => by cases hj)⟩
        case measure => rw [Hrg2.out.left_eq, Hhrg.out.left_eq]; exact Hlt.out
      · have EG := Lib.hid eg
        clear eg
        go_wp2_with fail
        have eg := EG.out
        go_simp
        clear eg
        refine Hc.out.mono ?_
        rintro e w2 ⟨rfl, hg2⟩
        have hrg2 := HrgA.out.kept hg2 (by simp) (by simp)
        have q0 : w2.cell? ⟨w1.heap.size, 0, none⟩ = some (.int .i64 f) := hg2.cell (by simp [go_sem]) (by simp)
        have q1 : w2.cell? ⟨w1.heap.size, 1, none⟩ = some (.int .u32 a) := hg2.cell (by simp [go_sem]) (by simp)
        have Hg2 := Lib.hid hg2
        have Hrg2 := Lib.hid hrg2
        clear hg2 hrg2
        go_wp2_with (first
          | (at_delete; refine wpList_delete_ranges _ rfl _ _ 62 66 rfl 71 keyed66 Tryd.underlying62 recR b w.heap.size n _ _ _ rfl Hrg2.out _ _ rfl Hkey.out ?_; intro w3 cnt3 hrg3 hle hturn; go_frame)
          | fail)
        rw [strike_twice] at hrg3
        have hlt := Hlt.out
        go_roundw
        case rel => exact ⟨_, cnt3, by rw [← Fk_struck Hhap.out (keyed66.key Hkey.out) Hlx.out Hp.out Hhat.out]; exact hrg3, (HgwA.out.andThen Hg2.out (fun j hj => by cases hj)).andThen hturn.grown (fun j hj => by cases hj; exact Or.inr rfl)⟩
        case measure => rw [hrg3.left_eq, Hhrg.out.left_eq]; omega
end Go.Proofs.YtahkhecfnimdbaaDoor
