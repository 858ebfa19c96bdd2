/- maps.Keys at this seat's map, as an iterator. -/
import Derived.Test.YtahkhecfnimdbaaDoorR3
import Derived.Sort.MapsRangeIn
import Derived.Maps.AppendAt
import Derived.RangeFuncBox
namespace Go.Proofs.YtahkhecfnimdbaaDoor
open Go.RowKit Go.Shelf Go.Maps

attribute [local go_sem] Oper.semAt_some

def keyP (r : Rec) : Int × Int := (r.face, r.addr)
theorem keyOf_inv {r : Rec} (hr : r.Wf) {x : Int × Int} (h : keyOf Tryd.prog 66 (keyV x.1 x.2) = some (klR r)) : x = keyP r := by
  have h2 := keyOf66 r.face r.addr hr.key.f (wf_u32 hr.key.2.1 hr.key.2.2)
  have := keyed66.inj h h2
  unfold keyV at this
  simp at this
  exact Prod.ext this.1 this.2

/-- the keys that have come -/
def CollP (T : List Rec) (left : Lit → Bool) (ss : List (Int × Int)) : Prop := ss.Nodup ∧ ∀ x, x ∈ ss ↔ ∃ r ∈ T, keyP r = x ∧ left (klR r) = false
theorem CollP.start {T : List Rec} {D : DataW Unit} (ht : Tab klR recD D T) : CollP T (Maps.has D) [] :=
  ⟨List.nodup_nil, fun x => ⟨fun h => by simp at h, fun ⟨r, hr, _, hl⟩ => by rw [ht.has_mem hr] at hl; cases hl⟩⟩
theorem CollP.step {T : List Rec} {D : DataW Unit} {left : Lit → Bool} {ss : List (Int × Int)} (h : CollP T left ss) (ht : Tab klR recD D T) (hw : ∀ r ∈ T, r.Wf) {x : Int × Int} {kl : Lit} {y : DataW Unit}
    (hkey : keyOf Tryd.prog 66 (keyV x.1 x.2) = some kl) (hlk : left kl = true) (hat : ∀ zd, D.atKey kl zd = y) : CollP T (fun z => left z && !z.sameKey kl) (ss ++ [x]) := by
  have hhas : Maps.has D kl = true := has_true_of_atKey hat
  obtain ⟨r, hr, rfl⟩ := ht.of_has hhas
  obtain rfl := keyOf_inv (hw r hr) hkey
  have hnew : keyP r ∉ ss := fun hx => by
    obtain ⟨s, hs, e, hl⟩ := (h.2 _).1 hx
    have : klR s = klR r := by unfold keyP at e; simp at e; unfold klR; rw [e.1, e.2]
    rw [this, hlk] at hl
    cases hl
  refine ⟨List.nodup_append.2 ⟨h.1, by simp, fun a ha b hb => by simp at hb; subst hb; exact fun e => hnew (e ▸ ha)⟩, fun x => ?_⟩
  rw [List.mem_append, h.2 x]
  constructor
  · rintro (⟨s, hs, e, hl⟩ | hx)
    · exact ⟨s, hs, e, by show (left (klR s) && _) = false; rw [hl]; rfl⟩
    · simp at hx
      subst hx
      refine ⟨r, hr, rfl, ?_⟩
      have := klR_same (hw r hr) (hw r hr).key
      show (left (klR r) && !(klR r).sameKey (klR r)) = false
      have h2 : (klR r).sameKey (klR r) = true := by
        unfold klR at this ⊢
        rw [this]
        simp [atR]
      rw [h2]
      simp
  · rintro ⟨s, hs, e, hl⟩
    replace hl : (left (klR s) && !(klR s).sameKey (klR r)) = false := hl
    rw [Bool.and_eq_false_iff] at hl
    rcases hl with hl | hl
    · exact .inl ⟨s, hs, e, hl⟩
    · right
      have := klR_same (hw s hs) (hw r hr).key
      unfold klR at this hl
      rw [this] at hl
      simp at hl
      obtain ⟨e1, e2⟩ := atR_iff.1 hl
      rw [← e]
      unfold keyP
      rw [e1, e2]
      simp
theorem apart_keys {T : List Rec} (h : Apart T) : (T.map keyP).Nodup := by
  unfold List.Nodup
  rw [List.pairwise_map]
  refine List.Pairwise.imp ?_ h
  intro a b hab e
  unfold keyP at e
  simp at e
  exact hab e
theorem CollP.perm {T : List Rec} {left : Lit → Bool} {ss : List (Int × Int)} (h : CollP T left ss) (hA : Apart T) (hl : ∀ kl, left kl = false) : ss.Perm (T.map keyP) := by
  rw [List.perm_ext_iff_of_nodup h.1 (apart_keys hA)]
  intro x
  rw [h.2 x, List.mem_map]
  constructor
  · rintro ⟨r, hr, e, _⟩; exact ⟨r, hr, e⟩
  · rintro ⟨r, hr, e⟩; exact ⟨r, hr, e, hl _⟩

set_option maxRecDepth 100000 in
set_option maxHeartbeats 4000000 in
theorem Keys1_in (n l Bm b nn : Nat) (T : List Rec) (D0 : DataW Unit) (hT : Tab klR recD D0 T) (hwf : ∀ r ∈ T, r.Wf) (hA : Apart T) (J Jx : List (Int × Int) → World → Prop) (W : World) (hJ : AbidesFrom W.heap.size J)
    (hY : ∀ pre x W1, J pre W1 → pre.length < T.length → YieldAt Fence.wide (n - 1) Tryd.prog l #[.agg #[.int .i64 x.1, .int .u32 x.2]] W1 fun e W' =>
      (e = .returned (.bool true) ∧ J (pre ++ [x]) W' ∧ KeepsWalks W1 W') ∨ (e = .returned (.bool false) ∧ Jx (pre ++ [x]) W'))
    (hm : W.cell? ⟨Bm, 0, none⟩ = some (.map (some b))) (hown : W.ownsMap Tryd.prog 66 recR b nn D0) (h0 : J [] W) :
    CallsIn Fence.wide n Tryd.prog 62 #[.func (.yield l) #[] #[], .pointer (some ⟨Bm, 0, none⟩)] W fun e W' => (∃ v, e = .returned v) ∧
      ((∃ xs : List (Int × Int), xs.Perm (T.map keyP) ∧ J xs W') ∨ (∃ pre : List (Int × Int), True ∧ Jx pre W')) := by
  refine callsIn_of_wp Tryd.func62 rfl trivial ?_ rfl
  simp only [Tryd.ntmps62, List.size_toArray, List.length_cons, List.length_nil, Nat.reduceAdd, Nat.reduceSub, Array.replicate_succ, Array.replicate_zero, List.push_toArray, List.append_toArray, List.nil_append, List.cons_append]
  have HJ := Lib.hid hJ
  have HY := Lib.hid hY
  have HT := Lib.hid hT
  have Hw := Lib.hid hwf
  have HA := Lib.hid hA
  have HO := Lib.hid hown
  clear hJ hY hT hwf hA
  gi_wp2_with (first
    | (gi_at_range; refine wpListIn_range_own _ rfl _ 62 rfl 66 71 keyed66 Tryd.underlying62 recR b nn _ rfl hown ?_; intro w0 hrg0 hg0 hs0)
    | fail)
  go_frame
  gi_loopw [3] (fun _ wr => ∃ (left : Lit → Bool) (cnt : Nat) (ss : List (Int × Int)), wr.ranges Tryd.prog 66 recR b W.heap.size nn D0 left cnt ∧ ss.length + cnt ≤ T.length ∧ CollP T left ss ∧ J ss wr)
    (fun _ wr => wr.rangeLeft b W.heap.size)
  case atStart =>
    exact ⟨_, _, [], hrg0, by rw [← HT.out.size]; simp, CollP.start HT.out, HJ.out [] W w0 none h0 hg0 (fun r e => by cases e)⟩
  case round =>
    obtain ⟨left, cnt, ss, hrg, hcs, hC, hJs⟩ := hrel
    clear h0 hrg0 hg0 hs0 hown
    gi_wp2_with (first
      | (gi_at_next; refine wpListIn_next_ranges _ rfl _ rfl 66 keyed66 recR (fun x : Int × Int => Value.agg #[.int .i64 x.1, .int .u32 x.2]) (fun r : Rec => Value.agg #[.int .i64 r.face, .int .u32 r.addr, .int .i64 r.last, .int .i64 r.good, .int .i64 r.bad]) key66_inv rec71_inv b W.heap.size nn _ _ _ rfl hrg ?_ ?_)
      | fail)
    · intro hc0 hl0
      have HE := Lib.hid (hC.perm HA.out hl0)
      gi_wp2_with fail
      go_end0
      exact ⟨⟨_, rfl⟩, .inl ⟨ss, HE.out, hJs⟩⟩
    · intro f a c kl yd yp w2 cnt2 hkey hlk hv hat hrg2 hlt hg2 hs2 hen
      have hJ2 : J ss w2 := HJ.out ss wr w2 (some W.heap.size) hJs hg2 (fun r e => by cases e; exact ⟨Nat.le_refl _, hrg.iter_walk⟩)
      have hJ3 : J ss (w2.alloc (kObj f a)) := HJ.out ss w2 _ none hJ2 (World.grownBy_alloc w2 _ none) (fun r e => by cases e)
      obtain ⟨fn, tmps, assign, body, hy, hR⟩ := (HY.out ss (f, a) _ hJ3 (by omega)).mono (R' := fun e W' => ∃ b : Bool, e = .returned (.bool b) ∧ (b = true → J (ss ++ [(f, a)]) W' ∧ KeepsWalks (w2.alloc (kObj f a)) W') ∧ (b = false → Jx (ss ++ [(f, a)]) W')) (by
        rintro e W' (⟨he, h1, h2⟩ | ⟨he, h1⟩)
        · exact ⟨true, he, fun _ => ⟨h1, h2⟩, by simp⟩
        · exact ⟨false, he, by simp, fun _ => h1⟩)
      have HC := Lib.hid (hC.step (x := (f, a)) HT.out Hw.out hkey hlk hat)
      have HR2 := Lib.hid hrg2
      have HRG := Lib.hid hrg
      have HLt := Lib.hid hlt
      clear hs2 hC hkey hlk hat hrg2 hrg hJs hJ2 hJ3 hg2 hv
      gi_wp2_with fail
      refine ⟨wide_d, hR.mono ?_⟩
      rintro e W3 ⟨bb, rfl, hb1, hb2⟩
      clear hR hy hen
      cases bb with
      | false =>
        have hJ3 := hb2 rfl
        clear hb1 hb2
        gi_wp2_with fail
        exact bodyPost_ret (results_none rfl _ _ _) rfl ⟨⟨_, rfl⟩, .inr ⟨_, trivial, hJ3⟩⟩
      | true =>
        obtain ⟨hJ3, hk3⟩ := hb1 rfl
        clear hb1 hb2
        have hrg3 := HR2.out.of_walks ((KeepsWalks.alloc _ _).trans hk3)
        have HRG3 := Lib.hid hrg3
        clear hrg3 hk3
        gi_wp2_with fail
        go_roundw
        case rel => exact ⟨_, cnt2, ss ++ [(f, a)], HRG3.out, by simp; omega, HC.out, hJ3⟩
        case measure => rw [HRG3.out.left_eq, HRG.out.left_eq]; exact HLt.out

theorem Keys_stops (n Bm b nn : Nat) (T : List Rec) (D0 : DataW Unit) (hT : Tab klR recD D0 T) (hwf : ∀ r ∈ T, r.Wf) (hA : Apart T) (w : World) (hBm : w.cell? ⟨Bm, 0, none⟩ = some (.map (some b))) (hown : w.ownsMap Tryd.prog 66 recR b nn D0) :
    SeqStopsK Fence.wide n Tryd.prog 62 #[.pointer (some ⟨Bm, 0, none⟩)] (fun x : Int × Int => #[.agg #[.int .i64 x.1, .int .u32 x.2]]) KeepsWalks (fun xs => xs.Perm (T.map keyP)) (fun _ => True) T.length w := fun l J Jx W hW hJ _ hY h0 => by
  have hown' : W.ownsMap Tryd.prog 66 recR b nn D0 := by
    have hbl := hown.lt
    obtain ⟨es, clock, hb, Ft, hs, hD⟩ := hown
    exact ⟨es, clock, (hW.block b hbl).trans hb, Ft, hs, hD⟩
  exact Keys1_in n l Bm b nn T D0 hT hwf hA J Jx W hJ hY (cell_below hW hBm) hown' h0
end Go.Proofs.YtahkhecfnimdbaaDoor
