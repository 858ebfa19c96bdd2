/- The walk of PrefixHolds: the other ways. -/
import Derived.Test.YtmmoccceafcfkaaDoorE6
namespace Go.Proofs.YtmmoccceafcfkaaDoor
open Go.RowKit

set_option maxRecDepth 100000 in
set_option maxHeartbeats 4000000 in
theorem PrefixHolds_f (pa pn qa qn ra rn a : Int) (w : World) (rp rq rr : Bool) (p0 : 0 ≤ pa) (p1 : pa < 4294967296) (q0 : 0 ≤ qa) (q1 : qa < 4294967296) (r0 : 0 ≤ ra) (r1 : ra < 4294967296) (hw : RelsAt w)
    (hp : rightB pa pn = rp) (hq : rightB qa qn = rq) (hr : rightB ra rn = rr) (hf : (rp && rq && rr) = false) :
    Calls Tryd.prog 5 #[.agg #[.int .u32 pa, .int .i64 pn], .agg #[.int .u32 qa, .int .i64 qn], .agg #[.int .u32 ra, .int .i64 rn], .int .u32 a] w fun e w' => e = .returned (.bool true) ∧ Below w.heap.size w w' := by
  have HR := Lib.hid hw
  have Hp := Lib.hid hp
  have Hq := Lib.hid hq
  have Hr := Lib.hid hr
  have HF := Lib.hid hf
  clear hw hp hq hr hf
  go_enter Tryd.func5, Tryd.ntmps5
  go_wp2_with fail
  have T := Three.new w pa pn qa qn ra rn
  refine (rRight_lit pa pn _ rp p0 p1 Hp.out).mono ?_
  rintro e w1 ⟨rfl, hb⟩
  replace T := T.below hb
  clear hb
  have c0 := T.q.c0
  have c1 := T.q.c1
  cases rp with
  | false =>
    go_wp2_with fail
    refine (works2 _ (HR.out.below T.b)).mono ?_
    rintro e w9 ⟨rfl, hb⟩
    go_wp2_with fail
    go_ret
    exact ⟨rfl, bthen T.b hb⟩
  | true =>
    go_wp2_with fail
    refine (rRight_lit qa qn _ rq q0 q1 Hq.out).mono ?_
    rintro e w2 ⟨rfl, hb⟩
    replace T := T.below hb
    clear hb c0 c1
    have c0 := T.r.c0
    have c1 := T.r.c1
    cases rq with
    | false =>
      go_wp2_with fail
      refine (works2 _ (HR.out.below T.b)).mono ?_
      rintro e w9 ⟨rfl, hb⟩
      go_wp2_with fail
      go_ret
      exact ⟨rfl, bthen T.b hb⟩
    | true =>
      obtain rfl : rr = false := by simpa using HF.out
      go_wp2_with fail
      refine (rRight_lit ra rn _ false r0 r1 Hr.out).mono ?_
      rintro e w3 ⟨rfl, hb⟩
      replace T := T.below hb
      clear hb c0 c1
      go_wp2_with fail
      refine (works2 _ (HR.out.below T.b)).mono ?_
      rintro e w9 ⟨rfl, hb⟩
      go_wp2_with fail
      go_ret
      exact ⟨rfl, bthen T.b hb⟩

theorem PrefixHolds_walk (pa pn qa qn ra rn a : Int) (w : World) (p0 : 0 ≤ pa) (p1 : pa < 4294967296) (q0 : 0 ≤ qa) (q1 : qa < 4294967296) (r0 : 0 ≤ ra) (r1 : ra < 4294967296) (a0 : 0 ≤ a) (a1 : a < 4294967296) (hw : RelsAt w) :
    Calls Tryd.prog 5 #[.agg #[.int .u32 pa, .int .i64 pn], .agg #[.int .u32 qa, .int .i64 qn], .agg #[.int .u32 ra, .int .i64 rn], .int .u32 a] w fun e w' => e = .returned (.bool true) ∧ Below w.heap.size w w' := by
  cases h : (rightB pa pn && rightB qa qn && rightB ra rn) with
  | true =>
    simp only [Bool.and_eq_true] at h
    exact PrefixHolds_t pa pn qa qn ra rn a w p0 p1 q0 q1 r0 r1 a0 a1 hw h.1.1 h.1.2 h.2
  | false => exact PrefixHolds_f pa pn qa qn ra rn a w _ _ _ p0 p1 q0 q1 r0 r1 hw rfl rfl rfl h
end Go.Proofs.YtmmoccceafcfkaaDoor
