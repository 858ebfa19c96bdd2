/- Contracts: prefix.Bit, holds, Has, cmp, Order. -/
import Derived.Test.YtmmoccceafcfkaaDoorA3
import Derived.Lib.QuietBelow
namespace Go.Proofs.YtmmoccceafcfkaaDoor
open Go.RowKit

theorem bthen {w w1 w' : World} (h1 : Below w.heap.size w w1) (h2 : Below w1.heap.size w1 w') : Below w.heap.size w w' := h1.trans (h2.mono h1.size)

def bitI (a i : Int) : Int := if i < 0 ∨ 32 ≤ i then 0 else a / 2 ^ (31 - i).toNat % 2

theorem bit_fin (a i : Int) (h0 : 0 ≤ a) (h1 : a < 4294967296) (c1 : 0 ≤ i) (c2 : i < 32) : wrap64 (bits BinOp.and IntKind.u32 (a / 2 ^ (31 - i).toNat) 1) = bitI a i := by
  have hp : (0 : Int) < 2 ^ (31 - i).toNat := Int.pow_pos (by omega)
  have d0 : 0 ≤ a / 2 ^ (31 - i).toNat := Int.ediv_nonneg h0 (by omega)
  have d1 : a / 2 ^ (31 - i).toNat ≤ a := Int.ediv_le_self _ h0
  unfold bitI
  rw [if_neg (by omega), u32_and _ 1 d0 (by omega) (by omega) (by omega)]
  generalize a / 2 ^ (31 - i).toNat = d at *
  rw [show (1 : Int).toNat = 1 by rfl, nat_mask1, wrap_small _ (by omega) (by omega)]
  omega

set_option maxHeartbeats 400000 in
theorem Bit_any (a i : Int) (w : World) (h0 : 0 ≤ a) (h1 : a < 4294967296) :
    Calls Tryd.prog 22 #[.int .u32 a, .int .i64 i] w fun e w' => e = .returned (.int .i64 (bitI a i)) ∧ w = w' := by
  by_cases c1 : i < 0
  · have t1 : decide (i < 0) = true := by simp; omega
    go_enter Tryd.func22, Tryd.ntmps22
    go_wp2_with fail
    go_ret
    exact ⟨by simp [bitI, c1], rfl⟩
  · have t1 : decide (i < 0) = false := by simp; omega
    by_cases c2 : 32 ≤ i
    · have t2 : decide (32 ≤ i) = true := by simp; omega
      go_enter Tryd.func22, Tryd.ntmps22
      go_wp2_with fail
      go_ret
      exact ⟨by simp [bitI, c2], rfl⟩
    · have t2 : decide (32 ≤ i) = false := by simp; omega
      go_enter Tryd.func22, Tryd.ntmps22
      go_wp2_with fail
      go_ret
      refine ⟨ret_int ?_, rfl⟩
      exact bit_fin a i h0 h1 c1 c2

def holdsB (pa pn qa qn : Int) : Bool := decide (pn ≤ qn) && (andM qa pn == pa)
def b2i (b : Bool) : Int := if b then 1 else 0

set_option maxHeartbeats 400000 in
theorem holds_any (pa pn qa qn : Int) (w : World) (h0 : 0 ≤ pn) (h1 : pn ≤ 32) :
    Calls Tryd.prog 60 #[.agg #[.int .u32 pa, .int .i64 pn], .agg #[.int .u32 qa, .int .i64 qn]] w fun e w' => e = .returned (.int .i64 (b2i (holdsB pa pn qa qn))) ∧ Below w.heap.size w w' := by
  by_cases c1 : pn ≤ qn
  · have t1 : decide (pn ≤ qn) = true := by simp; omega
    by_cases c2 : bits .and .u32 qa (mk pn) = pa
    · have t2 : (bits .and .u32 qa (mk pn) == pa) = true := by simp [c2]
      clear c2
      go_enter Tryd.func60, Tryd.ntmps60
      go_wp2_with fail
      go_quiet ((go_at_call 56; exact mask_q _ _ _ (by omega) (by omega)))
      go_wp2_with fail
      go_ret
      exact ⟨ret_int (by simp [holdsB, andM, t1, t2, b2i]), below_drewN (((Below.refl _ _).alloc (Nat.le_refl _) _).alloc (by simp) _) _⟩
    · have t2 : (bits .and .u32 qa (mk pn) == pa) = false := by simp [c2]
      clear c2
      go_enter Tryd.func60, Tryd.ntmps60
      go_wp2_with fail
      go_quiet ((go_at_call 56; exact mask_q _ _ _ (by omega) (by omega)))
      go_wp2_with fail
      go_ret
      exact ⟨ret_int (by simp [holdsB, andM, t1, t2, b2i]), below_drewN (((Below.refl _ _).alloc (Nat.le_refl _) _).alloc (by simp) _) _⟩
  · have t1 : decide (pn ≤ qn) = false := by simp; omega
    go_enter Tryd.func60, Tryd.ntmps60
    go_wp2_with fail
    go_quiet ((go_at_call 56; exact mask_q _ _ _ (by omega) (by omega)))
    go_wp2_with fail
    go_ret
    exact ⟨ret_int (by simp [holdsB, t1, b2i]), below_drewN (((Below.refl _ _).alloc (Nat.le_refl _) _).alloc (by simp) _) _⟩

def hasB (pa pn a : Int) : Bool := rightB pa pn && (andM a pn == pa)

theorem rightB_len {a n : Int} (h : rightB a n = true) : 0 ≤ n ∧ n ≤ 32 := by
  unfold rightB at h
  simp only [Bool.and_eq_true, decide_eq_true_eq] at h
  exact h.1

/-- operations in a forced order -/
def wpForced (P : Program) (ops : Array Oper) (K : Act → World → Prop) (Q : Exit → Act → World → Prop) : List Oper → Act → World → Prop
  | [], a, w => K a w
  | o :: rest, a, w => if Region.wanted o (yielded ops a.tmps) = true then o.wp P a w (wpForced P ops K Q rest) Q else wpForced P ops K Q rest (a.put o.dst undef) w
theorem wpForced_nil {P : Program} {ops : Array Oper} {K : Act → World → Prop} {Q : Exit → Act → World → Prop} {a : Act} {w : World} (h : K a w) : wpForced P ops K Q [] a w := h
theorem wpForced_step {P : Program} {ops : Array Oper} {K : Act → World → Prop} {Q : Exit → Act → World → Prop} {o : Oper} {rest : List Oper} {a : Act} {w : World}
    (h : ∀ K' : Act → World → Prop, (∀ a w, wpForced P ops K Q rest a w → K' a w) → if Region.wanted o (yielded ops a.tmps) = true then Oper.wp P o a w K' Q else K' (a.put o.dst undef) w) : wpForced P ops K Q (o :: rest) a w :=
  h _ (fun _ _ h => h)
def forcedB (ops : Array Oper) : Nat → Nat → Array Bool → Bool
  | 0, k, listed => Region.lexFrom .any ops (ops.size - k) k listed
  | n + 1, k, listed => (Region.ready .any ops listed == [k]) && forcedB ops n (k + 1) (listed.setIfInBounds k true)
theorem wpAny_forced {P : Program} {ops : Array Oper} {Q : Exit → Act → World → Prop} (hs : Region.noSelect ops = true) : ∀ (l : List Oper) (k : Nat) (listed : Array Bool) (a : Act) (w : World) (rest : List Oper),
    ops.toList.drop k = l ++ rest → k + l.length + rest.length = ops.size → forcedB ops l.length k listed = true →
    wpForced P ops (fun a' w' => wpQuiet P ops (fun w'' => ∃ n, w'' = w'.drewN n) (fun a'' => ∀ w'', (∃ n, w'' = w'.drewN n) → Q .normal a'' w'') rest a') Q l a w →
    wpAny P .any ops Q (l.length + rest.length) listed a w
  | [], k, listed, a, w, rest, hl, hsz, hB, h => by
    simp only [List.nil_append, List.length_nil, Nat.zero_add] at *
    have hB' : Region.lexFrom .any ops rest.length k listed = true := by
      have : ops.size - k = rest.length := by omega
      simpa [forcedB, this] using hB
    refine wpAny_of_quiet (C := fun w' => ∃ n, w' = w.drewN n) (Q := fun a' => ∀ w', (∃ n, w' = w.drewN n) → Q .normal a' w') (fun _ w' hw' h => h w' hw') _ _ _ _ ⟨0, rfl⟩ ?_
    exact wpAnyQ_lex hs rest k listed a (fun j => by rw [← hl]; simp) hB' h
  | o :: l, k, listed, a, w, rest, hl, hsz, hB, h => by
    simp only [List.length_cons, forcedB, Bool.and_eq_true, beq_iff_eq] at hB
    have ho : ops[k]? = some o := by
      have := congrArg (fun x => x[0]?) hl
      simpa using this
    have hl' : ops.toList.drop (k + 1) = l ++ rest := by
      have := congrArg (fun x => x.drop 1) hl
      simpa [Nat.add_comm] using this
    have e : (o :: l).length + rest.length = (l.length + rest.length) + 1 := by simp; omega
    rw [e]
    refine wpAny_ready (rs := [k]) hB.1 (by simp) (AllReady.cons ho (fun K hK => ?_) AllReady.nil)
    have hn := wpAny_forced (P := P) (Q := Q) hs l (k + 1) (listed.setIfInBounds k true)
    unfold wpForced at h
    split
    · rename_i hw
      rw [if_pos hw] at h
      exact Oper.wp_mono (fun a' w' h' => hK a' w' (hn a' w' rest hl' (by simp at hsz; omega) hB.2 h')) h
    · rename_i hw
      rw [if_neg hw] at h
      exact hK _ _ (hn _ _ rest hl' (by simp at hsz; omega) hB.2 h)
/-- a region that draws its order, the first n operations of which come in a forced order, the others only read -/
theorem wp_region_head {P : Program} {id : Nat} {Q : Exit → Act → World → Prop} {a : Act} {w : World} {l : List Oper} (n : Nat) (hm : P.follows .mixedOrders = true)
    (hn' : Nat.ble n l.length = true) (hB : (Region.noSelect l.toArray && forcedB l.toArray n 0 (Array.replicate l.length false)) = true)
    (h : wpForced P l.toArray (fun a' w' => wpQuiet P l.toArray (fun w'' => ∃ n, w'' = w'.drewN n) (fun a'' => ∀ w'', (∃ n, w'' = w'.drewN n) → Q .normal a'' w'') (l.drop n) a') Q (l.take n) a w.drew) : (Code.region id l.toArray true).wp P Q a w := by
  have hn : n ≤ l.length := Nat.le_of_ble_eq_true hn'
  simp only [Bool.and_eq_true] at hB
  refine wp_region_any hm ?_
  have e : l.toArray.size = (l.take n).length + (l.drop n).length := by simp; omega
  have := wpAny_forced (P := P) (Q := Q) hB.1 (l.take n) 0 (Array.replicate l.length false) a w.drew (l.drop n) (by simp) (by simp; omega) (by simpa [Nat.min_eq_left hn] using hB.2) h
  rw [e]
  simpa [Nat.min_eq_left hn, Nat.add_sub_cancel' hn] using this

set_option maxRecDepth 100000 in
set_option maxHeartbeats 400000 in
theorem Has_f (pa pn a : Int) (w : World) (h : rightB pa pn = false) :
    Calls Tryd.prog 20 #[.agg #[.int .u32 pa, .int .i64 pn], .int .u32 a] w fun e w' => e = .returned (.bool false) ∧ Below w.heap.size w w' := by
  have H := Lib.hid h
  clear h
  go_enter Tryd.func20, Tryd.ntmps20
  go_wp2_with fail
  refine wp_region_head 3 (by kernel_rfl) (by kernel_rfl) (by kernel_rfl) ?_
  simp only [List.take_succ_cons, List.take_zero, List.drop_succ_cons, List.drop_zero]
  refine wpForced_step (fun K hK => ?_)
  go_simp
  refine hK _ _ ?_
  clear hK K
  refine wpForced_step (fun K hK => ?_)
  go_simp
  refine hK _ _ ?_
  clear hK K
  refine wpForced_step (fun K hK => ?_)
  go_simp
  refine (mayBe1 _ pa pn _ false H.out ?_ ?_).mono ?_
  · simp [go_sem]
  · simp [go_sem]
  rintro e w' ⟨rfl, hb⟩
  have HB := Lib.hid hb
  clear hb
  refine hK _ _ ?_
  clear hK K
  refine wpForced_nil ?_
  repeat (first | go_big_quiet_step (fail) | quiet_step (fail))
  refine wpQuiet_nil ?_
  intro _ hw'
  obtain ⟨nq, hw''⟩ := hw'
  subst hw''
  go_wp2
  go_ret
  exact ⟨rfl, below_drewN (bthen (((Below.refl _ _).alloc (Nat.le_refl _) _).alloc (by simp) _).drew HB.out) _⟩

set_option maxRecDepth 100000 in
set_option maxHeartbeats 400000 in
theorem Has_t (pa pn a : Int) (w : World) (r : Bool) (h : rightB pa pn = true) (hr : (bits .and .u32 a (mk pn) == pa) = r) :
    Calls Tryd.prog 20 #[.agg #[.int .u32 pa, .int .i64 pn], .int .u32 a] w fun e w' => e = .returned (.bool r) ∧ Below w.heap.size w w' := by
  have H := Lib.hid h
  have hl := rightB_len h
  have H2 := Lib.hid hr
  clear h hr
  go_enter Tryd.func20, Tryd.ntmps20
  go_wp2_with fail
  refine wp_region_head 3 (by kernel_rfl) (by kernel_rfl) (by kernel_rfl) ?_
  simp only [List.take_succ_cons, List.take_zero, List.drop_succ_cons, List.drop_zero]
  refine wpForced_step (fun K hK => ?_)
  go_simp
  refine hK _ _ ?_
  clear hK K
  refine wpForced_step (fun K hK => ?_)
  go_simp
  refine hK _ _ ?_
  clear hK K
  refine wpForced_step (fun K hK => ?_)
  go_simp
  refine (mayBe1 _ pa pn _ true H.out ?_ ?_).mono ?_
  · simp [go_sem]
  · simp [go_sem]
  rintro e w' ⟨rfl, hb⟩
  have c0 := (hb.cell (p := ⟨w.heap.size, 0, none⟩) (by simp; omega)).trans (show _ = some (.int .u32 pa) by simp [go_sem])
  have c1 := (hb.cell (p := ⟨w.heap.size, 1, none⟩) (by simp; omega)).trans (show _ = some (.int .i64 pn) by simp [go_sem])
  have HB := Lib.hid hb
  clear hb
  refine hK _ _ ?_
  clear hK K
  refine wpForced_nil ?_
  repeat (first | go_big_quiet_step ((go_at_call 56; exact mask_q _ _ _ (by omega) (by omega))) | quiet_step ((go_at_call 56; exact mask_q _ _ _ (by omega) (by omega))))
  refine wpQuiet_nil ?_
  intro _ hw'
  obtain ⟨nq, hw''⟩ := hw'
  subst hw''
  go_wp2
  go_ret
  exact ⟨ret_bool H2.out, below_drewN (bthen (((Below.refl _ _).alloc (Nat.le_refl _) _).alloc (by simp) _).drew HB.out) _⟩
end Go.Proofs.YtmmoccceafcfkaaDoor
