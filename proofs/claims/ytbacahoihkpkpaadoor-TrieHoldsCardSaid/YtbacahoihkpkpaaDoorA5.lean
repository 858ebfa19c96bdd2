/- Merged: A4 A5. -/
import Derived.Test.YtbacahoihkpkpaaDoorA2
import Derived.Lib.QuietBelow
/- Contracts: prefix.Bit, holds, Has, cmp, Order. -/
namespace Go.Proofs.YtbacahoihkpkpaaDoor
open Go.RowKit

theorem wrap_small (x : Int) (h0 : 0 ≤ x) (h1 : x ≤ 100) : wrap64 x = x := IntWalk.wrap64_in _ ⟨by omega, by omega⟩
theorem bthen {w w1 w' : World} (h1 : Below w.heap.size w w1) (h2 : Below w1.heap.size w1 w') : Below w.heap.size w w' := h1.trans (h2.mono h1.size)

def bitI (a i : Int) : Int := if i < 0 ∨ 32 ≤ i then 0 else a / 2 ^ (31 - i).toNat % 2

theorem bit_fin (a i : Int) (h0 : 0 ≤ a) (h1 : a < 4294967296) (c1 : 0 ≤ i) (c2 : i < 32) : wrap64 (bits BinOp.and IntKind.u32 (a / 2 ^ (31 - i).toNat) 1) = bitI a i := by
  have hp : (0 : Int) < 2 ^ (31 - i).toNat := Int.pow_pos (by omega)
  have d0 : 0 ≤ a / 2 ^ (31 - i).toNat := Int.ediv_nonneg h0 (by omega)
  have d1 : a / 2 ^ (31 - i).toNat ≤ a := Int.ediv_le_self _ h0
  unfold bitI
  rw [if_neg (by omega), u32_and _ 1 d0 (by omega) (by omega) (by omega)]
  generalize a / 2 ^ (31 - i).toNat = d at *
  rw [show (1 : Int).toNat = 1 by rfl, nat_mask1, wrap_small _ (by omega) (by omega)]
  omega

set_option maxHeartbeats 400000 in
theorem Bit_any (a i : Int) (w : World) (h0 : 0 ≤ a) (h1 : a < 4294967296) :
    Calls Tryd.prog 61 #[.int .u32 a, .int .i64 i] w fun e w' => e = .returned (.int .i64 (bitI a i)) ∧ w = w' := by
  by_cases c1 : i < 0
  · have t1 : decide (i < 0) = true := by simp; omega
    go_enter Tryd.func61, Tryd.ntmps61
    go_wp2_with fail
    go_ret
    exact ⟨by simp [bitI, c1], rfl⟩
  · have t1 : decide (i < 0) = false := by simp; omega
    by_cases c2 : 32 ≤ i
    · have t2 : decide (32 ≤ i) = true := by simp; omega
      go_enter Tryd.func61, Tryd.ntmps61
      go_wp2_with fail
      go_ret
      exact ⟨by simp [bitI, c2], rfl⟩
    · have t2 : decide (32 ≤ i) = false := by simp; omega
      go_enter Tryd.func61, Tryd.ntmps61
      go_wp2_with fail
      go_ret
      refine ⟨ret_int ?_, rfl⟩
      exact bit_fin a i h0 h1 c1 c2

def holdsB (pa pn qa qn : Int) : Bool := decide (pn ≤ qn) && (andM qa pn == pa)
def b2i (b : Bool) : Int := if b then 1 else 0

set_option maxHeartbeats 400000 in
theorem holds_any (pa pn qa qn : Int) (w : World) (h0 : 0 ≤ pn) (h1 : pn ≤ 32) :
    Calls Tryd.prog 79 #[.agg #[.int .u32 pa, .int .i64 pn], .agg #[.int .u32 qa, .int .i64 qn]] w fun e w' => e = .returned (.int .i64 (b2i (holdsB pa pn qa qn))) ∧ Below w.heap.size w w' := by
  by_cases c1 : pn ≤ qn
  · have t1 : decide (pn ≤ qn) = true := by simp; omega
    by_cases c2 : bits .and .u32 qa (mk pn) = pa
    · have t2 : (bits .and .u32 qa (mk pn) == pa) = true := by simp [c2]
      clear c2
      go_enter Tryd.func79, Tryd.ntmps79
      go_wp2_with fail
      go_quiet ((go_at_call 77; exact mask_q _ _ _ (by omega) (by omega)))
      go_wp2_with fail
      go_ret
      exact ⟨ret_int (by simp [holdsB, andM, t1, t2, b2i]), below_drewN (((Below.refl _ _).alloc (Nat.le_refl _) _).alloc (by simp) _) _⟩
    · have t2 : (bits .and .u32 qa (mk pn) == pa) = false := by simp [c2]
      clear c2
      go_enter Tryd.func79, Tryd.ntmps79
      go_wp2_with fail
      go_quiet ((go_at_call 77; exact mask_q _ _ _ (by omega) (by omega)))
      go_wp2_with fail
      go_ret
      exact ⟨ret_int (by simp [holdsB, andM, t1, t2, b2i]), below_drewN (((Below.refl _ _).alloc (Nat.le_refl _) _).alloc (by simp) _) _⟩
  · have t1 : decide (pn ≤ qn) = false := by simp; omega
    go_enter Tryd.func79, Tryd.ntmps79
    go_wp2_with fail
    go_quiet ((go_at_call 77; exact mask_q _ _ _ (by omega) (by omega)))
    go_wp2_with fail
    go_ret
    exact ⟨ret_int (by simp [holdsB, t1, b2i]), below_drewN (((Below.refl _ _).alloc (Nat.le_refl _) _).alloc (by simp) _) _⟩

def hasB (pa pn a : Int) : Bool := rightB pa pn && (andM a pn == pa)

theorem rightB_len {a n : Int} (h : rightB a n = true) : 0 ≤ n ∧ n ≤ 32 := by
  unfold rightB at h
  simp only [Bool.and_eq_true, decide_eq_true_eq] at h
  exact h.1

/-- operations in a forced order -/
def wpForced (P : Program) (ops : Array Oper) (K : Act → World → Prop) (Q : Exit → Act → World → Prop) : List Oper → Act → World → Prop
  | [], a, w => K a w
  | o :: rest, a, w => if Region.wanted o (yielded ops a.tmps) = true then o.wp P a w (wpForced P ops K Q rest) Q else wpForced P ops K Q rest (a.put o.dst undef) w
theorem wpForced_nil {P : Program} {ops : Array Oper} {K : Act → World → Prop} {Q : Exit → Act → World → Prop} {a : Act} {w : World} (h : K a w) : wpForced P ops K Q [] a w := h
theorem wpForced_step {P : Program} {ops : Array Oper} {K : Act → World → Prop} {Q : Exit → Act → World → Prop} {o : Oper} {rest : List Oper} {a : Act} {w : World}
    (h : ∀ K' : Act → World → Prop, (∀ a w, wpForced P ops K Q rest a w → K' a w) → if Region.wanted o (yielded ops a.tmps) = true then Oper.wp P o a w K' Q else K' (a.put o.dst undef) w) : wpForced P ops K Q (o :: rest) a w :=
  h _ (fun _ _ h => h)
def forcedB (ops : Array Oper) : Nat → Nat → Array Bool → Bool
  | 0, k, listed => Region.lexFrom .any ops (ops.size - k) k listed
  | n + 1, k, listed => (Region.ready .any ops listed == [k]) && forcedB ops n (k + 1) (listed.setIfInBounds k true)
theorem wpAny_forced {P : Program} {ops : Array Oper} {Q : Exit → Act → World → Prop} (hs : Region.noSelect ops = true) : ∀ (l : List Oper) (k : Nat) (listed : Array Bool) (a : Act) (w : World) (rest : List Oper),
    ops.toList.drop k = l ++ rest → k + l.length + rest.length = ops.size → forcedB ops l.length k listed = true →
    wpForced P ops (fun a' w' => wpQuiet P ops (fun w'' => ∃ n, w'' = w'.drewN n) (fun a'' => ∀ w'', (∃ n, w'' = w'.drewN n) → Q .normal a'' w'') rest a') Q l a w →
    wpAny P .any ops Q (l.length + rest.length) listed a w
  | [], k, listed, a, w, rest, hl, hsz, hB, h => by
    simp only [List.nil_append, List.length_nil, Nat.zero_add] at *
    have hB' : Region.lexFrom .any ops rest.length k listed = true := by
      have : ops.size - k = rest.length := by omega
      simpa [forcedB, this] using hB
    refine wpAny_of_quiet (C := fun w' => ∃ n, w' = w.drewN n) (Q := fun a' => ∀ w', (∃ n, w' = w.drewN n) → Q .normal a' w') (fun _ w' hw' h => h w' hw') _ _ _ _ ⟨0, rfl⟩ ?_
    exact wpAnyQ_lex hs rest k listed a (fun j => by rw [← hl]; simp) hB' h
  | o :: l, k, listed, a, w, rest, hl, hsz, hB, h => by
    simp only [List.length_cons, forcedB, Bool.and_eq_true, beq_iff_eq] at hB
    have ho : ops[k]? = some o := by
      have := congrArg (fun x => x[0]?) hl
      simpa using this
    have hl' : ops.toList.drop (k + 1) = l ++ rest := by
      have := congrArg (fun x => x.drop 1) hl
      simpa [Nat.add_comm] using this
    have e : (o :: l).length + rest.length = (l.length + rest.length) + 1 := by simp; omega
    rw [e]
    refine wpAny_ready (rs := [k]) hB.1 (by simp) (AllReady.cons ho (fun K hK => ?_) AllReady.nil)
    have hn := wpAny_forced (P := P) (Q := Q) hs l (k + 1) (listed.setIfInBounds k true)
    unfold wpForced at h
    split
    · rename_i hw
      rw [if_pos hw] at h
      exact Oper.wp_mono (fun a' w' h' => hK a' w' (hn a' w' rest hl' (by simp at hsz; omega) hB.2 h')) h
    · rename_i hw
      rw [if_neg hw] at h
      exact hK _ _ (hn _ _ rest hl' (by simp at hsz; omega) hB.2 h)
/-- a region that draws its order, the first n operations of which come in a forced order, the others only read -/
theorem wp_region_head {P : Program} {id : Nat} {Q : Exit → Act → World → Prop} {a : Act} {w : World} {l : List Oper} (n : Nat) (hm : P.follows .mixedOrders = true)
    (hn' : Nat.ble n l.length = true) (hB : (Region.noSelect l.toArray && forcedB l.toArray n 0 (Array.replicate l.length false)) = true)
    (h : wpForced P l.toArray (fun a' w' => wpQuiet P l.toArray (fun w'' => ∃ n, w'' = w'.drewN n) (fun a'' => ∀ w'', (∃ n, w'' = w'.drewN n) → Q .normal a'' w'') (l.drop n) a') Q (l.take n) a w.drew) : (Code.region id l.toArray true).wp P Q a w := by
  have hn : n ≤ l.length := Nat.le_of_ble_eq_true hn'
  simp only [Bool.and_eq_true] at hB
  refine wp_region_any hm ?_
  have e : l.toArray.size = (l.take n).length + (l.drop n).length := by simp; omega
  have := wpAny_forced (P := P) (Q := Q) hB.1 (l.take n) 0 (Array.replicate l.length false) a w.drew (l.drop n) (by simp) (by simp; omega) (by simpa [Nat.min_eq_left hn] using hB.2) h
  rw [e]
  simpa [Nat.min_eq_left hn, Nat.add_sub_cancel' hn] using this

end Go.Proofs.YtbacahoihkpkpaaDoor
/- Contracts: prefix.Stands, cmp.Compare, cmp.Or, prefix.Order. -/
namespace Go.Proofs.YtbacahoihkpkpaaDoor
open Go.RowKit
open Go.Sort (grow)

structure RelsAt (w : World) : Prop where
  c0 : w.cell? ⟨0, 0, none⟩ = some (.int .i64 4)
  c1 : w.cell? ⟨0, 1, none⟩ = some (.int .i64 2)
  c2 : w.cell? ⟨0, 2, none⟩ = some (.int .i64 3)
  c3 : w.cell? ⟨0, 3, none⟩ = some (.int .i64 1)
theorem RelsAt.below {w w' : World} (h : RelsAt w) (hb : Below w.heap.size w w') : RelsAt w' := by
  have h0 := World.block_lt_of_cell? w _ h.c0
  exact ⟨(hb.cell (p := ⟨0, 0, none⟩) h0).trans h.c0, (hb.cell (p := ⟨0, 1, none⟩) h0).trans h.c1, (hb.cell (p := ⟨0, 2, none⟩) h0).trans h.c2, (hb.cell (p := ⟨0, 3, none⟩) h0).trans h.c3⟩

theorem holds_b (pa pn qa qn : Int) (w : World) (d : Nat) (os : Array Obj) (r : Int) (h0 : 0 ≤ pn) (h1 : pn ≤ 32) (hr : b2i (holdsB pa pn qa qn) = r) :
    Calls Tryd.prog 79 #[.agg #[.int .u32 pa, .int .i64 pn], .agg #[.int .u32 qa, .int .i64 qn]] (grow (redrawn w d) os) fun e w'' => e = .returned (.int .i64 r) ∧ ∃ p : Regrown, w'' = grow (redrawn w p.d) p.os := by
  subst hr
  exact Calls.regrown_of (holds_any pa pn qa qn _ h0 h1)

theorem holds_b1 (pa pn qa qn : Int) (w : World) (d : Nat) (os : Array Obj) (h0 : 0 ≤ pn) (h1 : pn ≤ 32) (hr : holdsB pa pn qa qn = true) :
    Calls Tryd.prog 79 #[.agg #[.int .u32 pa, .int .i64 pn], .agg #[.int .u32 qa, .int .i64 qn]] (grow (redrawn w d) os) fun e w'' => e = .returned (.int .i64 1) ∧ ∃ p : Regrown, w'' = grow (redrawn w p.d) p.os :=
  holds_b pa pn qa qn w d os 1 h0 h1 (by rw [hr]; rfl)
theorem holds_b0 (pa pn qa qn : Int) (w : World) (d : Nat) (os : Array Obj) (h0 : 0 ≤ pn) (h1 : pn ≤ 32) (hr : holdsB pa pn qa qn = false) :
    Calls Tryd.prog 79 #[.agg #[.int .u32 pa, .int .i64 pn], .agg #[.int .u32 qa, .int .i64 qn]] (grow (redrawn w d) os) fun e w'' => e = .returned (.int .i64 0) ∧ ∃ p : Regrown, w'' = grow (redrawn w p.d) p.os :=
  holds_b pa pn qa qn w d os 0 h0 h1 (by rw [hr]; rfl)

def relOf (x y : Bool) : Int := if x then (if y then 1 else 3) else (if y then 2 else 4)

set_option maxRecDepth 100000 in
set_option maxHeartbeats 400000 in
theorem Stands_t (pa pn qa qn : Int) (w : World) (hw : RelsAt w) (hp : rightB pa pn = true) (hq : rightB qa qn = true) :
    Calls Tryd.prog 84 #[.agg #[.int .u32 pa, .int .i64 pn], .agg #[.int .u32 qa, .int .i64 qn]] w fun e w' => e = .returned (.tuple #[.int .i64 (relOf (holdsB pa pn qa qn) (holdsB qa qn pa pn)), .int .i64 0]) ∧ Below w.heap.size w w' := by
  have Hp := Lib.hid hp
  have Hq := Lib.hid hq
  have lp := rightB_len hp
  have lq := rightB_len hq
  clear hp hq
  generalize hx : holdsB pa pn qa qn = x
  generalize hy : holdsB qa qn pa pn = y
  have Hx := Lib.hid hx
  have Hy := Lib.hid hy
  clear hx hy
  have Hw := Lib.hid hw
  clear hw
  go_enter Tryd.func84, Tryd.ntmps84
  go_wp2_with fail
  go_step3
  go_wp2_with fail
  refine (mayBe2 _ pa pn qa qn _ true true Hp.out Hq.out ?_ ?_ ?_ ?_).mono ?_
  · simp [go_sem]
  · simp [go_sem]
  · simp [go_sem]
  · simp [go_sem]
  rintro e w1 ⟨rfl, hb⟩
  have c0 := (hb.cell (p := ⟨w.heap.size, 0, none⟩) (by simp; omega)).trans (show _ = some (.int .u32 pa) by simp [go_sem])
  have c1 := (hb.cell (p := ⟨w.heap.size, 1, none⟩) (by simp; omega)).trans (show _ = some (.int .i64 pn) by simp [go_sem])
  have c2 := (hb.cell (p := ⟨w.heap.size + 1, 0, none⟩) (by simp)).trans (show _ = some (.int .u32 qa) by simp [go_sem])
  have c3 := (hb.cell (p := ⟨w.heap.size + 1, 1, none⟩) (by simp)).trans (show _ = some (.int .i64 qn) by simp [go_sem])
  have hB : Below w.heap.size w w1 := bthen ((((Below.refl _ _).alloc (Nat.le_refl _) _).alloc (by simp) _).alloc (by simp; omega) _) hb
  have hr := Hw.out.below hB
  have HB := Lib.hid hB
  clear hb hB
  have d0 := cell_regrown c0
  have d1 := cell_regrown c1
  have d2 := cell_regrown c2
  have d3 := cell_regrown c3
  have r0 := cell_regrown hr.c0
  have r1 := cell_regrown hr.c1
  have r2 := cell_regrown hr.c2
  have r3 := cell_regrown hr.c3
  clear c0 c1 c2 c3 hr
  go_wp2_with fail
  cases x <;> cases y
  all_goals
    refine wp_region_quiet_below (by kernel_rfl) (by kernel_rfl) ?_
    quiet_step (fail)
    quiet_step (fail)
    quiet_step (first | exact holds_b1 pa pn qa qn _ _ _ lp.1 lp.2 Hx.out | exact holds_b0 pa pn qa qn _ _ _ lp.1 lp.2 Hx.out)
    quiet_step (fail)
    quiet_step (fail)
    quiet_step (first | exact holds_b1 qa qn pa pn _ _ _ lq.1 lq.2 Hy.out | exact holds_b0 qa qn pa pn _ _ _ lq.1 lq.2 Hy.out)
    repeat (quiet_step (fail))
    refine wpQuiet_nil ?_
    intro _ hw'
    obtain ⟨⟨dq, osq⟩, hw''⟩ := hw'
    subst hw''
    go_wp2_with fail
    rw [Exit.noGoto_ret]
    go_ret2
    exact ⟨rfl, bthen HB.out (below_regrown _ dq osq)⟩

set_option maxRecDepth 100000 in
set_option maxHeartbeats 400000 in
theorem Stands_f (pa pn qa qn : Int) (w : World) (h : (rightB pa pn && rightB qa qn) = false) :
    Calls Tryd.prog 84 #[.agg #[.int .u32 pa, .int .i64 pn], .agg #[.int .u32 qa, .int .i64 qn]] w fun e w' => e = .returned (.tuple #[.int .i64 0, .int .i64 2]) ∧ Below w.heap.size w w' := by
  have H := Lib.hid h
  clear h
  go_enter Tryd.func84, Tryd.ntmps84
  go_wp2_with fail
  refine wp_scope_fwd 0 rfl ?_
  go_wp2_with fail
  refine (mayBe2 _ pa pn qa qn _ _ _ rfl rfl ?_ ?_ ?_ ?_).mono ?_
  · simp [go_sem]
  · simp [go_sem]
  · simp [go_sem]
  · simp [go_sem]
  rw [H.out]
  rintro e w1 ⟨rfl, hb⟩
  have HB := Lib.hid hb
  clear hb
  go_wp2_with fail
  go_step3
  refine ⟨rfl, ?_⟩
  go_wp2_with fail
  rw [Exit.noGoto_ret]
  go_ret2
  exact ⟨rfl, bthen ((((Below.refl _ _).alloc (Nat.le_refl _) _).alloc (by simp) _).alloc (by simp; omega) _) HB.out⟩

def cmpI (x y : Int) : Int := if x < y then -1 else if y < x then 1 else 0

set_option maxHeartbeats 400000 in
theorem CompareA (x y : Int) (w : World) :
    Calls Tryd.prog 69 #[.int .u32 x, .int .u32 y] w fun e w' => e = .returned (.int .i64 (cmpI x y)) ∧ w = w' := by
  by_cases c1 : x < y
  · have t1 : decide (x < y) = true := by simp; omega
    go_enter Tryd.func69, Tryd.ntmps69
    go_wp2
    go_ret
    exact ⟨ret_int (by simp [cmpI, c1]), rfl⟩
  · have t1 : decide (x < y) = false := by simp; omega
    by_cases c2 : y < x
    · have t2 : decide (y < x) = true := by simp; omega
      go_enter Tryd.func69, Tryd.ntmps69
      go_wp2
      go_ret
      exact ⟨ret_int (by unfold cmpI; rw [if_neg (by omega), if_pos c2]), rfl⟩
    · have t2 : decide (y < x) = false := by simp; omega
      go_enter Tryd.func69, Tryd.ntmps69
      go_wp2
      go_ret
      exact ⟨ret_int (by unfold cmpI; rw [if_neg (by omega), if_neg (by omega)]), rfl⟩
set_option maxHeartbeats 400000 in
theorem CompareI (x y : Int) (w : World) :
    Calls Tryd.prog 70 #[.int .i64 x, .int .i64 y] w fun e w' => e = .returned (.int .i64 (cmpI x y)) ∧ w = w' := by
  by_cases c1 : x < y
  · have t1 : decide (x < y) = true := by simp; omega
    go_enter Tryd.func70, Tryd.ntmps70
    go_wp2
    go_ret
    exact ⟨ret_int (by simp [cmpI, c1]), rfl⟩
  · have t1 : decide (x < y) = false := by simp; omega
    by_cases c2 : y < x
    · have t2 : decide (y < x) = true := by simp; omega
      go_enter Tryd.func70, Tryd.ntmps70
      go_wp2
      go_ret
      exact ⟨ret_int (by unfold cmpI; rw [if_neg (by omega), if_pos c2]), rfl⟩
    · have t2 : decide (y < x) = false := by simp; omega
      go_enter Tryd.func70, Tryd.ntmps70
      go_wp2
      go_ret
      exact ⟨ret_int (by unfold cmpI; rw [if_neg (by omega), if_neg (by omega)]), rfl⟩

def orI (x y : Int) : Int := if x = 0 then y else x
set_option maxHeartbeats 400000 in
theorem Or2 (b : Nat) (x y : Int) (w : World) (c0 : w.cell? ⟨b, 0, none⟩ = some (.int .i64 x)) (c1 : w.cell? ⟨b, 1, none⟩ = some (.int .i64 y)) :
    Calls Tryd.prog 68 #[.slice (some ⟨b, 0, none⟩) 2 2] w fun e w' => e = .returned (.int .i64 (orI x y)) ∧ w = w' := by
  by_cases hx : x = 0
  · subst hx
    by_cases hy : y = 0
    · subst hy
      go_enter Tryd.func68, Tryd.ntmps68
      go_wp2
      refine wp_loop_rounds 3 ?_
      rw [rounds_succ]
      go_wp2
      rw [rounds_succ]
      go_wp2
      rw [rounds_succ]
      go_wp2
      go_ret
      exact ⟨rfl, rfl⟩
    · have t2 : (y != 0) = true := by simpa using hy
      clear hy
      go_enter Tryd.func68, Tryd.ntmps68
      go_wp2
      refine wp_loop_rounds 3 ?_
      rw [rounds_succ]
      go_wp2
      rw [rounds_succ]
      go_wp2
      go_ret
      exact ⟨rfl, rfl⟩
  · have t1 : (x != 0) = true := by simpa using hx
    have H := Lib.hid hx
    clear hx
    go_enter Tryd.func68, Tryd.ntmps68
    go_wp2
    refine wp_loop_rounds 3 ?_
    rw [rounds_succ]
    go_wp2
    go_ret
    exact ⟨ret_int (by unfold orI; rw [if_neg H.out]), rfl⟩

def ordI (pa pn qa qn : Int) : Int := orI (cmpI pa qa) (cmpI pn qn)
set_option maxRecDepth 100000 in
set_option maxHeartbeats 400000 in
theorem Order_any (pa pn qa qn : Int) (w : World) :
    Calls Tryd.prog 49 #[.agg #[.int .u32 pa, .int .i64 pn], .agg #[.int .u32 qa, .int .i64 qn]] w fun e w' => e = .returned (.int .i64 (ordI pa pn qa qn)) ∧ Below w.heap.size w w' := by
  go_enter Tryd.func49, Tryd.ntmps49
  go_wp2_with fail
  go_region_held3 (fun w' => w'.cell? ⟨w.heap.size, 0, none⟩ = some (.int .u32 pa) ∧ w'.cell? ⟨w.heap.size, 1, none⟩ = some (.int .i64 pn) ∧ w'.cell? ⟨w.heap.size + 1, 0, none⟩ = some (.int .u32 qa) ∧ w'.cell? ⟨w.heap.size + 1, 1, none⟩ = some (.int .i64 qn))
    (go_keep)
    (first | (go_at_call 69; refine (CompareA _ _ _).mono ?_; rintro e w' ⟨rfl, rfl⟩) | (go_at_call 70; refine (CompareI _ _ _).mono ?_; rintro e w' ⟨rfl, rfl⟩) | (go_at_call 68; refine (Or2 _ (cmpI pa qa) (cmpI pn qn) _ (by simp [go_sem]) (by simp [go_sem])).mono ?_; rintro e w' ⟨rfl, rfl⟩))
  go_wp2
  go_ret
  exact ⟨rfl, ((((Below.refl _ _).alloc (Nat.le_refl _) _).alloc (by simp) _).alloc (by simp; omega) _).drew⟩
end Go.Proofs.YtbacahoihkpkpaaDoor
