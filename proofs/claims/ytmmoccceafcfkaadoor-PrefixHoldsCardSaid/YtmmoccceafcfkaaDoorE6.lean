/- The walk of PrefixHolds. -/
import Derived.Test.YtmmoccceafcfkaaDoorE5
import Derived.Deep.DeepCutAuto
namespace Go.Proofs.YtmmoccceafcfkaaDoor
open Go.RowKit
open Go.Sort (grow)

/-- the three prefixes stand where they were put -/
structure Three (w : World) (pa pn qa qn ra rn : Int) (W : World) : Prop where
  p : PBox W w.heap.size pa pn
  q : PBox W (w.heap.size + 1) qa qn
  r : PBox W (w.heap.size + 1 + 1) ra rn
  b : Below w.heap.size w W
theorem Three.below {w W W' : World} {pa pn qa qn ra rn : Int} (h : Three w pa pn qa qn ra rn W) (hb : Below W.heap.size W W') : Three w pa pn qa qn ra rn W' :=
  ⟨h.p.below hb, h.q.below hb, h.r.below hb, bthen h.b hb⟩
theorem Three.new (w : World) (pa pn qa qn ra rn : Int) : Three w pa pn qa qn ra rn (((w.alloc (Obj.cells #[Value.int IntKind.u32 pa, Value.int IntKind.i64 pn] 25)).alloc (Obj.cells #[Value.int IntKind.u32 qa, Value.int IntKind.i64 qn] 25)).alloc (Obj.cells #[Value.int IntKind.u32 ra, Value.int IntKind.i64 rn] 25)) :=
  ⟨((PBox.new w pa pn).alloc _).alloc _, by have := PBox.alloc (PBox.new (w.alloc (Obj.cells #[Value.int IntKind.u32 pa, Value.int IntKind.i64 pn] 25)) qa qn) (Obj.cells #[Value.int IntKind.u32 ra, Value.int IntKind.i64 rn] 25); simpa using this,
   by have := PBox.new ((w.alloc (Obj.cells #[Value.int IntKind.u32 pa, Value.int IntKind.i64 pn] 25)).alloc (Obj.cells #[Value.int IntKind.u32 qa, Value.int IntKind.i64 qn] 25)) ra rn; simpa using this,
   (((Below.refl _ _).alloc (Nat.le_refl _) _).alloc (by simp) _).alloc (by simp; omega) _⟩

/-- what is known of three prefixes that may be and an address -/
structure HoldsFacts (x y u o1 o2 o3 : Int) (i a eqa eqn hq : Bool) : Prop where
  xy : x = 1 ∧ y = 1 ∨ x = 2 ∧ y = 3 ∨ x = 3 ∧ y = 2 ∨ x = 4 ∧ y = 4
  ia1 : x = 1 → i = a
  ia2 : x = 2 → i = true → a = true
  ia3 : x = 3 → a = true → i = true
  ia4 : x = 4 → i = true → a = false
  g1 : x = 1 → eqa = true ∧ eqn = true ∧ hq = true
  g2 : x ≠ 1 → eqa = true → eqn = false
  g3 : x = 2 → hq = true
  g4 : x = 3 → eqa = true → hq = true
  g5 : x = 4 → hq = false
  f1 : o1 < 0 → o2 < 0 → u = 2 → y = 2
  f2 : x = 2 → o3 < 0

theorem relOf_xy (s t : Bool) : relOf s t = 1 ∧ relOf t s = 1 ∨ relOf s t = 2 ∧ relOf t s = 3 ∨ relOf s t = 3 ∧ relOf t s = 2 ∨ relOf s t = 4 ∧ relOf t s = 4 := by
  cases s <;> cases t <;> simp [relOf]

theorem holds_facts (pa pn qa qn ra rn a : Int) (p0 : 0 ≤ pa) (p1 : pa < 4294967296) (q0 : 0 ≤ qa) (q1 : qa < 4294967296) (r1 : ra < 4294967296) (a0 : 0 ≤ a) (a1 : a < 4294967296)
    (hp : rightB pa pn = true) (hq : rightB qa qn = true) :
    HoldsFacts (relOf (holdsB pa pn qa qn) (holdsB qa qn pa pn)) (relOf (holdsB qa qn pa pn) (holdsB pa pn qa qn)) (relOf (holdsB ra rn pa pn) (holdsB pa pn ra rn)) (ordI pa pn qa qn) (ordI qa qn ra rn) (ordI qa qn pa pn)
      (hasB pa pn a) (hasB qa qn a) (pa == qa) (pn == qn) (hasB qa qn pa) := by
  have ip : ∀ z, hasB pa pn z = true ↔ andM z pn = pa := fun z => by rw [hasB_of hp]; simp
  have iq : ∀ z, hasB qa qn z = true ↔ andM z qn = qa := fun z => by rw [hasB_of hq]; simp
  have inq : ∀ z, hasB qa qn z = false ↔ ¬ andM z qn = qa := fun z => by rw [hasB_of hq]; simp
  refine ⟨relOf_xy _ _, ?_, ?_, ?_, ?_, ?_, ?_, ?_, ?_, ?_, ?_, ?_⟩
  · rw [relOf_1]; rintro ⟨h1, h2⟩
    obtain ⟨rfl, rfl⟩ := holds_same pa pn qa qn q0 q1 hq h1 h2
    rfl
  · rw [relOf_2, ip, iq]; rintro ⟨_, h2⟩ h
    exact in_outer qa qn pa pn a a0 a1 hq hp h2 h
  · rw [relOf_3, ip, iq]; rintro ⟨h1, _⟩ h
    exact in_outer pa pn qa qn a a0 a1 hp hq h1 h
  · rw [relOf_4, ip, inq]; rintro ⟨h1, h2⟩ h h'
    rcases both_meet pa pn qa qn a a0 a1 hp hq h h' with h3 | h3
    · rw [h1] at h3; cases h3
    · rw [h2] at h3; cases h3
  · rw [relOf_1]; rintro ⟨h1, h2⟩
    obtain ⟨rfl, rfl⟩ := holds_same pa pn qa qn q0 q1 hq h1 h2
    exact ⟨by simp, by simp, (ip pa).2 (andM_self pa pn p0 p1 hp)⟩
  · intro h1 h2
    rw [beq_iff_eq] at h2
    rw [beq_eq_false_iff_ne]
    intro h3
    subst h2; subst h3
    exact h1 (by rw [holdsB_self pa pn p0 p1 hp]; rfl)
  · rw [relOf_2, iq]; rintro ⟨_, h2⟩
    exact ((holdsB_iff qa qn pa pn).1 h2).2
  · rw [beq_iff_eq, iq]; rintro _ h
    rw [h]; exact andM_self qa qn q0 q1 hq
  · rw [relOf_4, inq]; rintro ⟨h1, h2⟩ h
    have lp := rightB_len hp
    have lq := rightB_len hq
    rcases both_meet pa pn qa qn pa p0 p1 hp hq (andM_self pa pn p0 p1 hp) h with h3 | h3
    · rw [h1] at h3; cases h3
    · rw [h2] at h3; cases h3
  · exact fun h1 h2 h3 => between_within pa pn qa qn ra rn p0 p1 q0 q1 r1 hp hq h1 h2 h3
  · exact within_ahead pa pn qa qn p0 p1 hp hq

set_option maxRecDepth 100000 in
set_option maxHeartbeats 4000000 in
theorem PrefixHolds_t (pa pn qa qn ra rn a : Int) (w : World) (p0 : 0 ≤ pa) (p1 : pa < 4294967296) (q0 : 0 ≤ qa) (q1 : qa < 4294967296) (r0 : 0 ≤ ra) (r1 : ra < 4294967296) (a0 : 0 ≤ a) (a1 : a < 4294967296) (hw : RelsAt w)
    (hp : rightB pa pn = true) (hq : rightB qa qn = true) (hr : rightB ra rn = true) :
    Calls Tryd.prog 5 #[.agg #[.int .u32 pa, .int .i64 pn], .agg #[.int .u32 qa, .int .i64 qn], .agg #[.int .u32 ra, .int .i64 rn], .int .u32 a] w fun e w' => e = .returned (.bool true) ∧ Below w.heap.size w w' := by
  have hF := holds_facts pa pn qa qn ra rn a p0 p1 q0 q1 r1 a0 a1 hp hq
  generalize hx : relOf (holdsB pa pn qa qn) (holdsB qa qn pa pn) = x at hF
  generalize hy : relOf (holdsB qa qn pa pn) (holdsB pa pn qa qn) = y at hF
  generalize hu : relOf (holdsB ra rn pa pn) (holdsB pa pn ra rn) = u at hF
  generalize ho1 : ordI pa pn qa qn = o1 at hF
  generalize ho2 : ordI qa qn ra rn = o2 at hF
  generalize ho3 : ordI qa qn pa pn = o3 at hF
  generalize hi : hasB pa pn a = i at hF
  generalize hj : hasB qa qn a = j at hF
  generalize hea : (pa == qa) = eqa at hF
  generalize hen : (pn == qn) = eqn at hF
  generalize hh : hasB qa qn pa = hq2 at hF
  have HR := Lib.hid hw
  have Hp := Lib.hid hp
  have Hq := Lib.hid hq
  have Hr := Lib.hid hr
  have HF := Lib.hid hF
  have Hx := Lib.hid hx
  have Hy := Lib.hid hy
  have Hu := Lib.hid hu
  have Ho1 := Lib.hid ho1
  have Ho2 := Lib.hid ho2
  have Ho3 := Lib.hid ho3
  have Hi := Lib.hid hi
  have Hj := Lib.hid hj
  have Hea := Lib.hid hea
  have Hen := Lib.hid hen
  have Hh := Lib.hid hh
  clear hF hx hy hu ho1 ho2 ho3 hi hj hea hen hh hw hp hq hr
  go_enter Tryd.func5, Tryd.ntmps5
  go_wp2_with fail
  have T := Three.new w pa pn qa qn ra rn
  refine (rRight_lit pa pn _ true p0 p1 Hp.out).mono ?_
  rintro e w1 ⟨rfl, hb⟩
  replace T := T.below hb
  clear hb
  have c0 := T.q.c0
  have c1 := T.q.c1
  go_wp2_with fail
  refine (rRight_lit qa qn _ true q0 q1 Hq.out).mono ?_
  rintro e w2 ⟨rfl, hb⟩
  replace T := T.below hb
  clear hb c0 c1
  have c0 := T.r.c0
  have c1 := T.r.c1
  go_wp2_with fail
  refine (rRight_lit ra rn _ true r0 r1 Hr.out).mono ?_
  rintro e w3 ⟨rfl, hb⟩
  replace T := T.below hb
  clear hb c0 c1
  have c0 := T.p.c0
  have c1 := T.p.c1
  have c2 := T.q.c0
  have c3 := T.q.c1
  go_wp2_with fail
  refine (Stands_lit pa pn qa qn x _ (HR.out.below T.b) Hp.out Hq.out Hx.out).mono ?_
  rintro e w4 ⟨rfl, hb⟩
  replace T := T.below hb
  clear hb c0 c1 c2 c3
  have c0 := T.p.c0
  have c1 := T.p.c1
  have c2 := T.q.c0
  have c3 := T.q.c1
  go_wp2_with fail
  refine (Stands_lit qa qn pa pn y _ (HR.out.below T.b) Hq.out Hp.out Hy.out).mono ?_
  rintro e w5 ⟨rfl, hb⟩
  replace T := T.below hb
  clear hb c0 c1 c2 c3
  have d0 := cell_regrown T.p.c0
  have d1 := cell_regrown T.p.c1
  have d2 := cell_regrown T.q.c0
  have d3 := cell_regrown T.q.c1
  have HT := Lib.hid T
  clear T
  go_wp2_with fail
  refine wp_region_quiet_below (by kernel_rfl) (by kernel_rfl) ?_
  repeat (go_big_quiet_step (first | exact Calls.regrown_of (Has_lit _ _ _ _ i Hi.out) | exact Calls.regrown_of (Has_lit _ _ _ _ j Hj.out)))
  refine wpQuiet_nil ?_
  intro _ hw'
  obtain ⟨⟨dq, osq⟩, hw''⟩ := hw'
  subst hw''
  have T := HT.out.below (below_regrown _ dq osq)
  clear d0 d1 d2 d3
  generalize grow (redrawn w5 dq) osq = W6 at *
  clear HT
  go_upto_region 6 with fail
  go_cut [96] (fun s wx => s = .bool false ∧ wx = W6)
  case first =>
    have hF := HF.out
    rcases hF.xy with ⟨rfl, rfl⟩ | ⟨rfl, rfl⟩ | ⟨rfl, rfl⟩ | ⟨rfl, rfl⟩ <;> cases i <;> cases j
    all_goals
      have e1 := hF.ia1
      have e2 := hF.ia2
      have e3 := hF.ia3
      have e4 := hF.ia4
      first
        | (exfalso; simp at e1 e2 e3 e4; done)
        | (as_aux_lemma =>
           clear e1 e2 e3 e4 hF
           go_wp2_with (go_at_call 17; refine (num2_any _ _).mono ?_; rintro e w' ⟨rfl, rfl⟩)
           go_meet
           exact ⟨rfl, rfl⟩)
  case rest =>
    obtain ⟨rfl, rfl⟩ := hcut
    have c0 := T.p.c0
    have c1 := T.p.c1
    have c2 := T.q.c0
    have c3 := T.q.c1
    go_upto_region 8 with fail
    go_cut [150] (fun s wx => s = .bool false ∧ Three w pa pn qa qn ra rn wx)
    case first =>
      have hF := HF.out
      rcases hF.xy with ⟨rfl, rfl⟩ | ⟨rfl, rfl⟩ | ⟨rfl, rfl⟩ | ⟨rfl, rfl⟩ <;> cases eqa <;> cases eqn <;> cases hq2
      all_goals
        have e1 := hF.g1
        have e2 := hF.g2
        have e3 := hF.g3
        have e4 := hF.g4
        have e5 := hF.g5
        first
          | (exfalso; simp at e1 e2 e3 e4 e5; done)
          | (as_aux_lemma =>
             clear e1 e2 e3 e4 e5 hF
             have h1 := Hea.out
             have h2 := Hen.out
             go_wp2_with fail
             refine (Has_lit _ _ _ _ _ Hh.out).mono ?_
             rintro e wd ⟨rfl, hb⟩
             replace T := T.below hb
             clear hb c0 c1 c2 c3
             have c0 := T.p.c0
             have c1 := T.p.c1
             have c2 := T.q.c0
             have c3 := T.q.c1
             go_wp2_with fail
             first
               | (go_meet; exact ⟨rfl, T⟩)
               | (refine (Has_lit _ _ _ _ _ Hh.out).mono ?_
                  rintro e we ⟨rfl, hb⟩
                  replace T := T.below hb
                  clear hb c0 c1 c2 c3
                  go_wp2_with fail
                  go_meet
                  exact ⟨rfl, T⟩))
    case rest =>
      obtain ⟨rfl, T⟩ := hcut
      clear c0 c1 c2 c3
      have c0 := T.p.c0
      have c1 := T.p.c1
      have c2 := T.r.c0
      have c3 := T.r.c1
      go_wp2_with fail
      refine (Stands_lit ra rn pa pn u _ (HR.out.below T.b) Hr.out Hp.out Hu.out).mono ?_
      rintro e w7 ⟨rfl, hb⟩
      replace T := T.below hb
      clear hb c0 c1 c2 c3
      have c0 := T.p.c0
      have c1 := T.p.c1
      have c2 := T.q.c0
      have c3 := T.q.c1
      go_upto_region 11 with fail
      go_cut [17] (fun s wx => s = .bool (decide (o1 < 0) && decide (o2 < 0)) ∧ Three w pa pn qa qn ra rn wx)
      case first =>
       as_aux_lemma =>
        go_wp2_with fail
        refine (Order_lit _ _ _ _ _ _ Ho1.out).mono ?_
        rintro e w8 ⟨rfl, hb⟩
        replace T := T.below hb
        clear hb c0 c1 c2 c3
        have c0 := T.q.c0
        have c1 := T.q.c1
        have c2 := T.r.c0
        have c3 := T.r.c1
        cases ho : decide (o1 < 0)
        · go_wp2_with fail
          go_meet
          exact ⟨by rw [ho]; rfl, T⟩
        · go_wp2_with fail
          refine (Order_lit _ _ _ _ _ _ Ho2.out).mono ?_
          rintro e w9 ⟨rfl, hb⟩
          replace T := T.below hb
          clear hb c0 c1 c2 c3
          go_wp2_with fail
          go_meet
          exact ⟨by rw [ho, Bool.true_and], T⟩
      case rest =>
        obtain ⟨rfl, T⟩ := hcut
        clear c0 c1 c2 c3
        have c0 := T.p.c0
        have c1 := T.p.c1
        have c2 := T.q.c0
        have c3 := T.q.c1
        have hF := HF.out
        have f1 := hF.f1
        have f2 := hF.f2
        generalize hbt : (decide (o1 < 0) && decide (o2 < 0)) = bt
        have f3 : bt = true → (u == 2) = true → (y != 2) = false := by
          intro h1 h2
          rw [← hbt] at h1
          simp only [Bool.and_eq_true, decide_eq_true_eq] at h1
          simpa using f1 h1.1 h1.2 (by simpa using h2)
        have f4 : (x != 2) = false → decide (o3 < 0) = true := by
          intro h
          simpa using f2 (by simpa using h)
        clear hF f1 f2 hbt
        generalize hu2 : (u == 2) = u2 at f3
        generalize hx2 : (x != 2) = x2 at f4
        have F3 := Lib.hid f3
        have F4 := Lib.hid f4
        clear f3 f4
        cases bt <;> cases u2 <;> cases x2
        all_goals as_aux_lemma =>
          have f3 := F3.out
          have f4 := F4.out
          simp only [forall_const, reduceCtorEq, false_implies] at f3 f4
          go_wp2_with (go_at_call 17; refine (num2_any _ _).mono ?_; rintro e w' ⟨rfl, rfl⟩)
          first
            | (refine (Order_lit _ _ _ _ _ _ Ho3.out).mono ?_
               rintro e w8 ⟨rfl, hb⟩
               replace T := T.below hb
               clear hb c0 c1 c2 c3
               go_wp2_with fail
               refine (works2 _ (HR.out.below T.b)).mono ?_
               rintro e w9 ⟨rfl, hb⟩
               go_wp2_with fail
               go_ret
               exact ⟨rfl, bthen T.b hb⟩)
            | (refine (works2 _ (HR.out.below T.b)).mono ?_
               rintro e w9 ⟨rfl, hb⟩
               go_wp2_with fail
               go_ret
               exact ⟨rfl, bthen T.b hb⟩)
end Go.Proofs.YtmmoccceafcfkaaDoor
