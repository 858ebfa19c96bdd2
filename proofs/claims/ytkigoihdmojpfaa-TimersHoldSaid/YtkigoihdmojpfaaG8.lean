/- The law's is. (Printed by gen_g8.py.) -/
import Derived.Test.YtkigoihdmojpfaaG7
import Derived.Test.YtkigoihdmojpfaaR3
namespace Go.Proofs.Ytkigoihdmojpfaa
open Go.RowKit
open Go.Sort (grow)

set_option maxRecDepth 100000 in
set_option maxHeartbeats 8000000 in
theorem is_empty (q g : Nat) (F : List Nat) (S : List TR) (h0 : S = []) (v : Value) (w : World) (hq : Qu w q F S) (hrt : RT w g v S) (hl : S.length < 1000) :
    Calls Try.prog 18 #[.pointer (some ⟨q, 0, none⟩), v] w fun e w' => e = .returned (.bool true) ∧ Below w.heap.size w w' := by
  obtain ⟨base, cap, rfl, hsl, hcap⟩ := hrt.ex
  have HN := Lib.hid (fun W (hb : Below w.heap.size w W) => Next_q q F S W (hq.below hb) (by omega))
  have HL := Lib.hid (fun W (hb : Below w.heap.size w W) => Len_q q F S W (hq.below hb))
  have HR := Lib.hid (fun W (hb : Below w.heap.size w W) => rowsL_any (.pointer (some ⟨q, 0, none⟩)) S base g cap 1000 W (by omega) (fun W' hb' => All_any q F S W' (hq.below (bthen hb hb')) (by omega)) (hsl.below hb))
  have HSl := Lib.hid hsl
  have hn : nextV S = .tuple #[.agg #[.int .i64 0, .int .u32 0, .int .i64 0], .int .i64 0, .bool false] := by rw [h0]; rfl
  rw [hn] at HN
  have hz : S.length = 0 := by rw [h0]; rfl
  have t1 : decide ((0 : Int) < (S.length : Int)) = false := by simp; omega
  have t1' : decide (0 < S.length) = false := by simp; omega
  clear hn h0
  clear hz
  clear hq hrt hsl hcap
  have hX : ∀ X, X = w.alloc (.cells #[.slice base S.length cap] 37) → OneB X w.heap.size (.slice base S.length cap) 37 ∧ Below w.heap.size w X := fun X e => by
    subst e
    exact ⟨OneB.new _ _ _, below1 _ _⟩
  go_enter Try.func18, Try.ntmps18
  go_upto_region 1 with fail
  generalize w.alloc (.cells #[.slice base S.length cap] 37) = X at *
  obtain ⟨hX1, hX2⟩ := hX X rfl
  have HX1 := Lib.hid hX1
  have HX2 := Lib.hid hX2
  clear hX hX1 hX2
  go_upto_region 3 with (go_at_call 26; (with_reducible refine (HN.out _ HX2.out).mono ?_); rintro e w1 ⟨rfl, hb⟩; have HB1 := Lib.hid hb; clear hb)
  have hxz := HX1.out.lt
  have hb1 := HB1.out.size
  have hY : ∀ Y, Y = (w1.alloc (.cells #[.int .i64 0, .int .u32 0, .int .i64 0] 29)).alloc (.cells #[.int .i64 0, .int .u32 0, .int .i64 0, .int .i64 0] 45) → OneB Y w.heap.size (.slice base S.length cap) 37 ∧ Y.heap[w1.heap.size]? = some (.cells #[.int .i64 0, .int .u32 0, .int .i64 0] 29 (0, 0)) ∧ Y.heap[w1.heap.size + 1]? = some (.cells #[.int .i64 0, .int .u32 0, .int .i64 0, .int .i64 0] 45 (0, 0)) ∧ Below w.heap.size w Y ∧ Y.heap.size = w1.heap.size + 2 := fun Y e => by
    subst e
    have h2 := below1 (w1.alloc (.cells #[.int .i64 0, .int .u32 0, .int .i64 0] 29)) (.cells #[.int .i64 0, .int .u32 0, .int .i64 0, .int .i64 0] 45)
    refine ⟨((HX1.out.below HB1.out).alloc _).alloc _, (h2.block w1.heap.size (by simp)).trans (heap_alloc_new w1 _), ?_, bthen (bthen (bthen HX2.out HB1.out) (below1 _ _)) h2, by simp⟩
    have := heap_alloc_new (w1.alloc (.cells #[.int .i64 0, .int .u32 0, .int .i64 0] 29)) (.cells #[.int .i64 0, .int .u32 0, .int .i64 0, .int .i64 0] 45)
    rwa [World.size_alloc] at this
  generalize (w1.alloc (.cells #[.int .i64 0, .int .u32 0, .int .i64 0] 29)).alloc (.cells #[.int .i64 0, .int .u32 0, .int .i64 0, .int .i64 0] 45) = Y at *
  obtain ⟨hY1, hY2, hY3, hY4, hY5⟩ := hY Y rfl
  have HY4 := Lib.hid hY4
  have c0 := hY1.c
  clear hY
  go_upto_region 5 with fail
  have HV4 := Lib.hid hY4
  have e0 : Y.cell? ⟨w1.heap.size, 0, none⟩ = some (.int .i64 0) := by simp [World.cell?, hY2]
  have e1 : Y.cell? ⟨w1.heap.size, 1, none⟩ = some (.int .u32 0) := by simp [World.cell?, hY2]
  have e2 : Y.cell? ⟨w1.heap.size, 2, none⟩ = some (.int .i64 0) := by simp [World.cell?, hY2]
  have g0 : Y.cell? ⟨w1.heap.size + 1, 0, none⟩ = some (.int .i64 0) := by simp [World.cell?, hY3]
  have g1 : Y.cell? ⟨w1.heap.size + 1, 1, none⟩ = some (.int .u32 0) := by simp [World.cell?, hY3]
  have g2 : Y.cell? ⟨w1.heap.size + 1, 2, none⟩ = some (.int .i64 0) := by simp [World.cell?, hY3]
  have g3 : Y.cell? ⟨w1.heap.size + 1, 3, none⟩ = some (.int .i64 0) := by simp [World.cell?, hY3]
  have HVd := Lib.hid ((Below.refl Y.heap.size Y).drew)
  clear hY1 hY2 hY3 hY4 hY5
  go_region_held3 (fun w' => w'.cell? ⟨w.heap.size, 0, none⟩ = some (.slice base S.length cap) ∧ w'.cell? ⟨w1.heap.size, 0, none⟩ = some (.int .i64 0) ∧ w'.cell? ⟨w1.heap.size, 1, none⟩ = some (.int .u32 0) ∧ w'.cell? ⟨w1.heap.size, 2, none⟩ = some (.int .i64 0) ∧ w'.cell? ⟨w1.heap.size + 1, 0, none⟩ = some (.int .i64 0) ∧ w'.cell? ⟨w1.heap.size + 1, 1, none⟩ = some (.int .u32 0) ∧ w'.cell? ⟨w1.heap.size + 1, 2, none⟩ = some (.int .i64 0) ∧ w'.cell? ⟨w1.heap.size + 1, 3, none⟩ = some (.int .i64 0))
    (first | with_reducible exact ⟨x0, x1, x2, x3, x4, x5, x6, x7⟩ | go_keep)
    (first
      | (go_at_call 12; (with_reducible refine (HR.out _ (bthen HV4.out HVd.out)).mono ?_); rintro e w5 ⟨rfl, hb⟩; have hb5 := bthen HVd.out hb; have HB5 := Lib.hid hb5; have x0 := cellL hb5 c0; have x1 := cellL hb5 e0; have x2 := cellL hb5 e1; have x3 := cellL hb5 e2; have x4 := cellL hb5 g0; have x5 := cellL hb5 g1; have x6 := cellL hb5 g2; have x7 := cellL hb5 g3; clear hb hb5)
      | (go_at_call 23; (with_reducible refine (HL.out _ (bthen HV4.out HB5.out)).mono ?_); rintro e w6 ⟨rfl, rfl⟩))
  all_goals
    go_wp2_with fail
    go_ret
    exact ⟨rfl, bthen HV4.out HB5.out⟩

set_option maxRecDepth 100000 in
set_option maxHeartbeats 8000000 in
theorem is_some (q g : Nat) (F : List Nat) (S : List TR) (x : TR) (hx : S[0]? = some x) (v : Value) (w : World) (hq : Qu w q F S) (hrt : RT w g v S) (hl : S.length < 1000) :
    Calls Try.prog 18 #[.pointer (some ⟨q, 0, none⟩), v] w fun e w' => e = .returned (.bool true) ∧ Below w.heap.size w w' := by
  obtain ⟨base, cap, rfl, hsl, hcap⟩ := hrt.ex
  have HN := Lib.hid (fun W (hb : Below w.heap.size w W) => Next_q q F S W (hq.below hb) (by omega))
  have HL := Lib.hid (fun W (hb : Below w.heap.size w W) => Len_q q F S W (hq.below hb))
  have HR := Lib.hid (fun W (hb : Below w.heap.size w W) => rowsL_any (.pointer (some ⟨q, 0, none⟩)) S base g cap 1000 W (by omega) (fun W' hb' => All_any q F S W' (hq.below (bthen hb hb')) (by omega)) (hsl.below hb))
  have HSl := Lib.hid hsl
  have hn : nextV S = .tuple #[keyV x.kind x.addr x.len, .int .i64 x.due, .bool true] := by
    cases S with
    | nil => simp at hx
    | cons y T => simp at hx; subst hx; rfl
  rw [hn] at HN
  unfold keyV at HN
  have hpos := (List.getElem?_eq_some_iff.1 hx).1
  have t1 : decide ((0 : Int) < (S.length : Int)) = true := by simp; omega
  have t1' : decide (0 < S.length) = true := by simp; omega
  have i1 : (0 : Int) < (S.length : Int) := by omega
  have HX := Lib.hid hx
  clear hn hx
  clear hq hrt hsl hcap
  have hX : ∀ X, X = w.alloc (.cells #[.slice base S.length cap] 37) → OneB X w.heap.size (.slice base S.length cap) 37 ∧ Below w.heap.size w X := fun X e => by
    subst e
    exact ⟨OneB.new _ _ _, below1 _ _⟩
  go_enter Try.func18, Try.ntmps18
  go_upto_region 1 with fail
  generalize w.alloc (.cells #[.slice base S.length cap] 37) = X at *
  obtain ⟨hX1, hX2⟩ := hX X rfl
  have HX1 := Lib.hid hX1
  have HX2 := Lib.hid hX2
  clear hX hX1 hX2
  go_upto_region 3 with (go_at_call 26; (with_reducible refine (HN.out _ HX2.out).mono ?_); rintro e w1 ⟨rfl, hb⟩; have HB1 := Lib.hid hb; clear hb)
  have hxz := HX1.out.lt
  have hb1 := HB1.out.size
  have hY : ∀ Y, Y = (w1.alloc (.cells #[.int .i64 x.kind, .int .u32 x.addr, .int .i64 x.len] 29)).alloc (.cells #[.int .i64 0, .int .u32 0, .int .i64 0, .int .i64 0] 45) → OneB Y w.heap.size (.slice base S.length cap) 37 ∧ Y.heap[w1.heap.size]? = some (.cells #[.int .i64 x.kind, .int .u32 x.addr, .int .i64 x.len] 29 (0, 0)) ∧ Y.heap[w1.heap.size + 1]? = some (.cells #[.int .i64 0, .int .u32 0, .int .i64 0, .int .i64 0] 45 (0, 0)) ∧ Below w.heap.size w Y ∧ Y.heap.size = w1.heap.size + 2 := fun Y e => by
    subst e
    have h2 := below1 (w1.alloc (.cells #[.int .i64 x.kind, .int .u32 x.addr, .int .i64 x.len] 29)) (.cells #[.int .i64 0, .int .u32 0, .int .i64 0, .int .i64 0] 45)
    refine ⟨((HX1.out.below HB1.out).alloc _).alloc _, (h2.block w1.heap.size (by simp)).trans (heap_alloc_new w1 _), ?_, bthen (bthen (bthen HX2.out HB1.out) (below1 _ _)) h2, by simp⟩
    have := heap_alloc_new (w1.alloc (.cells #[.int .i64 x.kind, .int .u32 x.addr, .int .i64 x.len] 29)) (.cells #[.int .i64 0, .int .u32 0, .int .i64 0, .int .i64 0] 45)
    rwa [World.size_alloc] at this
  generalize (w1.alloc (.cells #[.int .i64 x.kind, .int .u32 x.addr, .int .i64 x.len] 29)).alloc (.cells #[.int .i64 0, .int .u32 0, .int .i64 0, .int .i64 0] 45) = Y at *
  obtain ⟨hY1, hY2, hY3, hY4, hY5⟩ := hY Y rfl
  have HY4 := Lib.hid hY4
  have c0 := hY1.c
  obtain ⟨rfl, z0, z1, z2, z3⟩ := (HSl.out.below hY4).row 0 x HX.out
  simp only [Nat.zero_add, Nat.zero_mul] at z0 z1 z2 z3
  have f0 : ∀ o, Y.frozen? ⟨w1.heap.size + 1, o, none⟩ = false := fun o => by simp [World.frozen?, hY3]
  have y0 : Y.cell? ⟨w1.heap.size + 1, 0, none⟩ = some (.int .i64 0) := by simp [World.cell?, hY3]
  have y1 : Y.cell? ⟨w1.heap.size + 1, 1, none⟩ = some (.int .u32 0) := by simp [World.cell?, hY3]
  have y2 : Y.cell? ⟨w1.heap.size + 1, 2, none⟩ = some (.int .i64 0) := by simp [World.cell?, hY3]
  have y3 : Y.cell? ⟨w1.heap.size + 1, 3, none⟩ = some (.int .i64 0) := by simp [World.cell?, hY3]
  have hV : ∀ V, V = ((((Y.setCell ⟨w1.heap.size + 1, 0, none⟩ (.int .i64 x.kind)).setCell ⟨w1.heap.size + 1, 1, none⟩ (.int .u32 x.addr)).setCell ⟨w1.heap.size + 1, 2, none⟩ (.int .i64 x.len)).setCell ⟨w1.heap.size + 1, 3, none⟩ (.int .i64 x.due)) → OneB V w.heap.size (.slice (some ⟨g, 0, none⟩) S.length cap) 37 ∧ V.heap[w1.heap.size]? = some (.cells #[.int .i64 x.kind, .int .u32 x.addr, .int .i64 x.len] 29 (0, 0)) ∧ V.heap[w1.heap.size + 1]? = some (.cells #[.int .i64 x.kind, .int .u32 x.addr, .int .i64 x.len, .int .i64 x.due] 45 (0, 0)) ∧ Below w.heap.size w V ∧ V.heap.size = w1.heap.size + 2 := fun V e => by
    subst e
    have hk : ∀ i, i ≠ w1.heap.size + 1 → ((((Y.setCell ⟨w1.heap.size + 1, 0, none⟩ (.int .i64 x.kind)).setCell ⟨w1.heap.size + 1, 1, none⟩ (.int .u32 x.addr)).setCell ⟨w1.heap.size + 1, 2, none⟩ (.int .i64 x.len)).setCell ⟨w1.heap.size + 1, 3, none⟩ (.int .i64 x.due)).heap[i]? = Y.heap[i]? := fun i hi =>
      (Below.heap_setCell _ _ _ i hi).trans ((Below.heap_setCell _ _ _ i hi).trans ((Below.heap_setCell _ _ _ i hi).trans (Below.heap_setCell _ _ _ i hi)))
    refine ⟨(hk _ (by omega)).trans hY1, (hk _ (by omega)).trans hY2, heap_setAt (heap_setAt (heap_setAt (heap_setAt hY3 0 _) 1 _) 2 _) 3 _, (((hY4.setCell (p := ⟨w1.heap.size + 1, 0, none⟩) (by simp; omega) _).setCell (p := ⟨w1.heap.size + 1, 1, none⟩) (by simp; omega) _).setCell (p := ⟨w1.heap.size + 1, 2, none⟩) (by simp; omega) _).setCell (p := ⟨w1.heap.size + 1, 3, none⟩) (by simp; omega) _, by simpa using hY5⟩
  have HV := Lib.hid hV
  clear hY hV hY1 hY2 hY3 hY4 hY5
  go_upto_region 5 with fail
  have hV := HV.out
  clear z0 z1 z2 z3 y0 y1 y2 y3 f0 c0
  generalize ((((Y.setCell ⟨w1.heap.size + 1, 0, none⟩ (.int .i64 x.kind)).setCell ⟨w1.heap.size + 1, 1, none⟩ (.int .u32 x.addr)).setCell ⟨w1.heap.size + 1, 2, none⟩ (.int .i64 x.len)).setCell ⟨w1.heap.size + 1, 3, none⟩ (.int .i64 x.due)) = V at *
  obtain ⟨hY1, hY2, hY3, hY4, hY5⟩ := hV V rfl
  have HV4 := Lib.hid hY4
  have c0 := hY1.c
  clear HV hV
  have e0 : V.cell? ⟨w1.heap.size, 0, none⟩ = some (.int .i64 x.kind) := by simp [World.cell?, hY2]
  have e1 : V.cell? ⟨w1.heap.size, 1, none⟩ = some (.int .u32 x.addr) := by simp [World.cell?, hY2]
  have e2 : V.cell? ⟨w1.heap.size, 2, none⟩ = some (.int .i64 x.len) := by simp [World.cell?, hY2]
  have g0 : V.cell? ⟨w1.heap.size + 1, 0, none⟩ = some (.int .i64 x.kind) := by simp [World.cell?, hY3]
  have g1 : V.cell? ⟨w1.heap.size + 1, 1, none⟩ = some (.int .u32 x.addr) := by simp [World.cell?, hY3]
  have g2 : V.cell? ⟨w1.heap.size + 1, 2, none⟩ = some (.int .i64 x.len) := by simp [World.cell?, hY3]
  have g3 : V.cell? ⟨w1.heap.size + 1, 3, none⟩ = some (.int .i64 x.due) := by simp [World.cell?, hY3]
  have HVd := Lib.hid ((Below.refl V.heap.size V).drew)
  clear hY1 hY2 hY3 hY4 hY5
  go_region_held3 (fun w' => w'.cell? ⟨w.heap.size, 0, none⟩ = some (.slice (some ⟨g, 0, none⟩) S.length cap) ∧ w'.cell? ⟨w1.heap.size, 0, none⟩ = some (.int .i64 x.kind) ∧ w'.cell? ⟨w1.heap.size, 1, none⟩ = some (.int .u32 x.addr) ∧ w'.cell? ⟨w1.heap.size, 2, none⟩ = some (.int .i64 x.len) ∧ w'.cell? ⟨w1.heap.size + 1, 0, none⟩ = some (.int .i64 x.kind) ∧ w'.cell? ⟨w1.heap.size + 1, 1, none⟩ = some (.int .u32 x.addr) ∧ w'.cell? ⟨w1.heap.size + 1, 2, none⟩ = some (.int .i64 x.len) ∧ w'.cell? ⟨w1.heap.size + 1, 3, none⟩ = some (.int .i64 x.due))
    (first | with_reducible exact ⟨x0, x1, x2, x3, x4, x5, x6, x7⟩ | go_keep)
    (first
      | (go_at_call 12; (with_reducible refine (HR.out _ (bthen HV4.out HVd.out)).mono ?_); rintro e w5 ⟨rfl, hb⟩; have hb5 := bthen HVd.out hb; have HB5 := Lib.hid hb5; have x0 := cellL hb5 c0; have x1 := cellL hb5 e0; have x2 := cellL hb5 e1; have x3 := cellL hb5 e2; have x4 := cellL hb5 g0; have x5 := cellL hb5 g1; have x6 := cellL hb5 g2; have x7 := cellL hb5 g3; clear hb hb5)
      | (go_at_call 23; (with_reducible refine (HL.out _ (bthen HV4.out HB5.out)).mono ?_); rintro e w6 ⟨rfl, rfl⟩))
  all_goals
    go_wp2_with fail
    go_ret
    exact ⟨rfl, bthen HV4.out HB5.out⟩

theorem is_any (w0 : World) (q g : Nat) (F : List Nat) (S : List TR) (v : Value) (w : World) (h : PW w0 w q F S g v) (hl : S.length < 1000) :
    Calls Try.prog 18 #[.pointer (some ⟨q, 0, none⟩), v] w fun e w' => e = .returned (.bool true) ∧ Below w.heap.size w w' := by
  cases S with
  | nil => exact is_empty q g F [] rfl v w h.qu h.rt hl
  | cons x T => exact is_some q g F (x :: T) x rfl v w h.qu h.rt hl
end Go.Proofs.Ytkigoihdmojpfaa
