/- The reference: Depth. -/
import Derived.Test.YtbacahoihkpkpaaDoorU19
namespace Go.Proofs.YtbacahoihkpkpaaDoor
open Go.RowKit Go.Shelf Go.Maps
open Go.Sort (grow)

/-- how many of some keys are ahead of x -/
def cntP (K : List Key) (x : Key) : Nat := (K.filter fun y => decide (y <+: x)).length
/-- the greatest of these -/
def dpU (K : List Key) (i : Nat) : Nat := ((K.take i).map (cntP K)).foldl max 0
theorem fold_max (l : List Nat) (a b : Nat) : (l ++ [a]).foldl max b = max (l.foldl max b) a := by simp
theorem dpU_succ {K : List Key} {i : Nat} {x : Key} (h : K[i]? = some x) : dpU K (i + 1) = max (dpU K i) (cntP K x) := by
  have hl := (List.getElem?_eq_some_iff.1 h).1
  rw [List.getElem?_eq_getElem hl] at h
  unfold dpU
  rw [List.take_succ_eq_append_getElem hl, Option.some.inj h, List.map_append, List.map_singleton, fold_max]
theorem fold_le (l : List Nat) (b m : Nat) (hb : b ≤ m) (h : ∀ a ∈ l, a ≤ m) : l.foldl max b ≤ m := by
  induction l generalizing b with
  | nil => exact hb
  | cons a l ih => exact ih _ (Nat.max_le.2 ⟨hb, h a (by simp)⟩) (fun c hc => h c (by simp [hc]))
theorem fold_ge0 (l : List Nat) (b : Nat) : b ≤ l.foldl max b := by
  induction l generalizing b with
  | nil => exact Nat.le_refl _
  | cons a l ih => exact Nat.le_trans (Nat.le_max_left _ _) (ih _)
theorem fold_ge (l : List Nat) (b : Nat) : ∀ a ∈ l, a ≤ l.foldl max b := by
  induction l generalizing b with
  | nil => intro a h; cases h
  | cons c l ih =>
    intro a h
    rcases List.mem_cons.1 h with rfl | h
    · exact Nat.le_trans (Nat.le_max_right _ _) (fold_ge0 _ _)
    · exact ih _ a h
theorem dpU_dp {t : TT} (h : t.WF) : dpU t.keys t.keys.length = t.dp := by
  unfold dpU
  rw [List.take_length]
  refine Nat.le_antisymm (fold_le _ _ _ (Nat.zero_le _) fun a ha => ?_) ?_
  · obtain ⟨x, hx, rfl⟩ := List.mem_map.1 ha
    exact TT.anc_le h hx
  · cases hn : t.isN with
    | true =>
      rw [TT.isN_iff] at hn
      subst hn
      simp [TT.dp]
    | false =>
      obtain ⟨x, hx, e⟩ := TT.anc_ex h hn
      rw [← e]
      exact fold_ge _ _ _ (List.mem_map.2 ⟨x, hx, rfl⟩)
theorem stand_pre {x y : Key} (hy : y.length ≤ 32) : (standI (ka x) x.length (ka y) y.length = 1 ∨ standI (ka x) x.length (ka y) y.length = 2) ↔ y <+: x := by
  have hh := ka_holds (x := y) (y := x) hy
  unfold holdsB at hh
  have hk := ka_inj_iff (x := y) (y := x) hy
  unfold standI
  constructor
  · intro h
    split at h
    · rename_i hs
      rw [hk.1 ⟨hs.1.symm, hs.2.symm⟩]
      exact List.prefix_refl _
    · split at h
      · rename_i hs
        have : decide (y <+: x) = true := by rw [← hh]; simp [hs.1, hs.2]
        simpa using this
      · split at h <;> omega
  · intro h
    rw [decide_eq_true h] at hh
    simp only [Bool.and_eq_true, decide_eq_true_eq, beq_iff_eq] at hh
    split
    · exact .inl rfl
    · first | exact .inr rfl | (rw [if_pos ⟨hh.1, hh.2⟩]; exact .inr rfl)
theorem rStands_g (x y : Key) (s : Int) (hx : x.length ≤ 32) (hy : y.length ≤ 32) (hs : standI (ka x) x.length (ka y) y.length = s) (W : World) (d : Nat) (os : Array Obj) :
    Calls Tryd.prog 73 #[.agg #[.int .u32 (ka x), .int .i64 x.length], .agg #[.int .u32 (ka y), .int .i64 y.length]] (grow (redrawn W d) os) fun e w' => e = .returned (.int .i64 s) ∧ ∃ q : Regrown, w' = grow (redrawn W q.d) q.os := by
  have h1 := rStands_any (ka x) x.length (ka y) y.length (grow (redrawn W d) os) (ka_0 x) (ka_1 x) (ka_0 y) (ka_1 y) (ka_right hx) (ka_right hy)
  rw [hs] at h1
  exact Calls.regrown_of h1
theorem cnt_yes {K : List Key} {k : Nat} {x y : Key} (h : K[k]? = some y) (hp : y <+: x) : cntP (K.take (k + 1)) x = cntP (K.take k) x + 1 := by
  have hl := (List.getElem?_eq_some_iff.1 h).1
  rw [List.getElem?_eq_getElem hl] at h
  unfold cntP
  rw [List.take_succ_eq_append_getElem hl, Option.some.inj h]
  simp [List.filter_append, hp]
theorem cnt_no {K : List Key} {k : Nat} {x y : Key} (h : K[k]? = some y) (hp : ¬ y <+: x) : cntP (K.take (k + 1)) x = cntP (K.take k) x := by
  have hl := (List.getElem?_eq_some_iff.1 h).1
  rw [List.getElem?_eq_getElem hl] at h
  unfold cntP
  rw [List.take_succ_eq_append_getElem hl, Option.some.inj h]
  simp [List.filter_append, hp]
theorem cnt_le (K : List Key) (x : Key) : cntP K x ≤ K.length := List.length_filter_le _ _
theorem dpU_le (K : List Key) (i : Nat) : dpU K i ≤ K.length := by
  unfold dpU
  refine fold_le _ _ _ (Nat.zero_le _) fun a ha => ?_
  obtain ⟨x, _, rfl⟩ := List.mem_map.1 ha
  exact cnt_le K x

def dRel (W0 : World) (K : List Key) (m : Nat) (v3 v4 : Value) (wr : World) : Prop :=
  ∃ i : Nat, m = K.length - i ∧ i ≤ K.length ∧ v3 = .int .i64 (dpU K i : Nat) ∧ v4 = .int .i64 i ∧ Below W0.heap.size W0 wr
def d2Rel (W0 : World) (K : List Key) (x : Key) (m : Nat) (v5 v6 : Value) (wr : World) : Prop :=
  ∃ k : Nat, m = K.length - k ∧ k ≤ K.length ∧ v5 = .int .i64 (cntP (K.take k) x : Nat) ∧ v6 = .int .i64 k ∧ Below W0.heap.size W0 wr

set_option maxRecDepth 100000 in
set_option maxHeartbeats 8000000 in
theorem rDepth_any (v : Value) (K : List Key) (w : World) (hS : KSl w v K) (hl : K.length ≤ 100000) (hK : ∀ x ∈ K, x.length ≤ 32) :
    Calls Tryd.prog 54 #[v] w fun e w' => e = .returned (.int .i64 (dpU K K.length : Nat)) ∧ Below w.heap.size w w' := by
  obtain ⟨base, g, cap, rfl, hkl, hcap⟩ := hS.ex
  have HS := Lib.hid hkl
  have HK := Lib.hid hK
  clear hS hK hkl
  go_enter Tryd.func54, Tryd.ntmps54
  go_wp2_with fail
  go_loopg [3, 4] K.length (dRel w K)
  case atStart => exact ⟨0, rfl, by omega, by simp [dpU], rfl, Below.refl _ _⟩
  case round =>
    obtain ⟨i, hn, hil, rfl, rfl, hbl⟩ := hrel
    have Hn := Lib.hid hn
    have HBl := Lib.hid hbl
    have hd := dpU_le K i
    clear hn hbl
    by_cases hlt : i < K.length
    · obtain ⟨x, hx⟩ : ∃ x, K[i]? = some x := ⟨_, List.getElem?_eq_getElem hlt⟩
      obtain ⟨rfl, x0, x1⟩ := HS.out.row i x hx
      have HXk := Lib.hid (HK.out x (List.mem_of_getElem? hx))
      have HDs := Lib.hid (dpU_succ hx)
      have hcl := cnt_le K x
      have i1 : (0 : Int) ≤ (i : Int) := by omega
      have i2 : (i : Int) < (K.length : Int) := by omega
      have HXc := Lib.hid (And.intro x0 x1)
      generalize hdu : dpU K i = du at *
      clear hx x0 x1 hdu
      go_upto_block 2 with fail
      go_cut [5] (fun v5 wx => v5 = .int .i64 (cntP K x : Nat) ∧ Below w.heap.size w wx)
      case first => as_aux_lemma =>
        go_wp2_with fail
        go_loopg [5, 6] K.length (d2Rel w K x)
        case atStart => exact ⟨0, rfl, by omega, by simp [cntP], rfl, HBl.out⟩
        case round =>
          obtain ⟨k, hnk, hkl, rfl, rfl, hbk⟩ := hrel
          have Hnk := Lib.hid hnk
          have HBk := Lib.hid hbk
          have hck := Nat.le_trans (cnt_le (K.take k) x) (List.length_take_le' k K)
          have x0 := cell_regrown (cellL hbk HXc.out.1)
          have x1 := cell_regrown (cellL hbk HXc.out.2)
          clear hnk hbk
          by_cases hkt : k < K.length
          · obtain ⟨y, hy⟩ : ∃ y, K[k]? = some y := ⟨_, List.getElem?_eq_getElem hkt⟩
            obtain ⟨_, z0, z1⟩ := (HS.out.below HBk.out).row k y hy
            have y0 := cell_regrown z0
            have y1 := cell_regrown z1
            have HYk := Lib.hid (HK.out y (List.mem_of_getElem? hy))
            have k1 : (0 : Int) ≤ (k : Int) := by omega
            have k2 : (k : Int) < (K.length : Int) := by omega
            obtain ⟨s, hs⟩ : ∃ s, standI (ka x) x.length (ka y) y.length = s := ⟨_, rfl⟩
            have HSg := Lib.hid (fun d os => rStands_g x y s HXk.out HYk.out hs wr d os)
            have hsp := stand_pre (x := x) HYk.out
            rw [hs] at hsp
            by_cases hp : y <+: x
            · have HC := Lib.hid (cnt_yes hy hp)
              have hs2 := hsp.2 hp
              generalize cntP (K.take k) x = ck at *
              clear hsp hs hp hy z0 z1
              rcases hs2 with rfl | rfl
              all_goals
                go_upto_region 9 with fail
                refine wp_region_quiet_below (by kernel_rfl) (by kernel_rfl) ?_
                repeat (first | go_big_quiet_step (with_reducible exact HSg.out _ _) | quiet_step (with_reducible exact HSg.out _ _))
                refine wpQuiet_nil ?_
                intro _ hw'
                obtain ⟨⟨dq, osq⟩, hw''⟩ := hw'
                subst hw''
                go_wp2_with fail
                go_roundg (K.length - (k + 1))
                case measure => have := Hnk.out; omega
                case rel => exact ⟨k + 1, rfl, by omega, by rw [HC.out]; go_num, by go_num, bthen HBk.out (below_regrown _ _ _)⟩
            · have HC := Lib.hid (cnt_no hy hp)
              have s1 : (s == 1) = false := by
                have := fun e => hp (hsp.1 (.inl e))
                simpa using this
              have s2 : (s == 2) = false := by
                have := fun e => hp (hsp.1 (.inr e))
                simpa using this
              generalize cntP (K.take k) x = ck at *
              clear hsp hs hp hy z0 z1
              go_upto_region 9 with fail
              refine wp_region_quiet_below (by kernel_rfl) (by kernel_rfl) ?_
              repeat (first | go_big_quiet_step (with_reducible exact HSg.out _ _) | quiet_step (with_reducible exact HSg.out _ _))
              refine wpQuiet_nil ?_
              intro _ hw'
              obtain ⟨⟨dq, osq⟩, hw''⟩ := hw'
              subst hw''
              go_wp2_with fail
              go_roundg (K.length - (k + 1))
              case measure => have := Hnk.out; omega
              case rel => exact ⟨k + 1, rfl, by omega, by rw [HC.out], by go_num, bthen HBk.out (below_regrown _ _ _)⟩
          · obtain rfl : k = K.length := by omega
            go_wp2_with fail
            go_meet
            exact ⟨by rw [List.take_length], HBk.out⟩
      case rest =>
        obtain ⟨rfl, hbc⟩ := hcut
        have HBc := Lib.hid hbc
        generalize cntP K x = cx at *
        clear hbc
        go_wp2_with fail
        all_goals
          go_roundg (K.length - (i + 1))
          case measure => have := Hn.out; omega
          case rel => exact ⟨i + 1, rfl, by omega, by rw [HDs.out]; first | rfl | (congr 1; omega), by go_num, HBc.out⟩
    · obtain rfl : i = K.length := by omega
      go_wp2_with fail
      go_ret
      exact ⟨rfl, HBl.out⟩
end Go.Proofs.YtbacahoihkpkpaaDoor
