/- Lists of rows in memory; the function value of trie.told, as an iterator. -/
import Derived.Test.YtbacahoihkpkpaaDoorT19
namespace Go.Proofs.YtbacahoihkpkpaaDoor
open Go.RowKit Go.Shelf

attribute [local go_sem] Oper.semAt_some

/-- a list of rows behind a slice's address -/
structure RL (W : World) (base : Option Addr) (g o : Nat) (L : List (Key × Int)) : Prop where
  lt : g < W.heap.size
  row : ∀ i x, L[i]? = some x → base = some ⟨g, o, none⟩ ∧ W.cell? ⟨g, o + i * 3, none⟩ = some (.int .u32 (ka x.1)) ∧ W.cell? ⟨g, o + i * 3 + 1, none⟩ = some (.int .i64 x.1.length) ∧ W.cell? ⟨g, o + i * 3 + 2, none⟩ = some (.int .i64 x.2)
theorem RL.of_block {W W' : World} {base : Option Addr} {g o : Nat} {L : List (Key × Int)} (h : RL W base g o L) (e : W'.heap[g]? = W.heap[g]?) : RL W' base g o L := by
  have hl : g < W'.heap.size := by
    have := h.lt
    rcases Nat.lt_or_ge g W'.heap.size with h' | h'
    · exact h'
    · rw [Array.getElem?_eq_none h', Array.getElem?_eq_getElem this] at e; cases e
  have hc : ∀ o, W'.cell? ⟨g, o, none⟩ = W.cell? ⟨g, o, none⟩ := fun o => World.cell?_of_block (w := W) (a := ⟨g, o, none⟩) e
  exact ⟨hl, fun i r hr => by obtain ⟨h0, h1, h2, h3⟩ := h.row i r hr; exact ⟨h0, (hc _).trans h1, (hc _).trans h2, (hc _).trans h3⟩⟩
theorem RL.below {W W' : World} {base : Option Addr} {g o : Nat} {L : List (Key × Int)} (h : RL W base g o L) (hb : Below W.heap.size W W') : RL W' base g o L := h.of_block (hb.block g h.lt)
theorem RL.none {W : World} (h : 0 < W.heap.size) (o : Nat) : RL W none 0 o [] := ⟨h, fun i r hr => by simp at hr⟩
theorem RL.drop {W : World} {base : Option Addr} {g o : Nat} {L : List (Key × Int)} (h : RL W base g o L) (n : Nat) : RL W (base.map fun a => ⟨a.block, a.off + n * 3, a.spot⟩) g (o + n * 3) (L.drop n) := by
  refine ⟨h.lt, fun i x hx => ?_⟩
  rw [List.getElem?_drop] at hx
  obtain ⟨h0, h1, h2, h3⟩ := h.row _ x hx
  have e : o + (n + i) * 3 = o + n * 3 + i * 3 := by omega
  rw [e] at h1 h2 h3
  exact ⟨by rw [h0]; rfl, h1, h2, h3⟩
theorem rCs_at {xs : List (Key × Int)} {i : Nat} {x : Key × Int} (h : xs[i]? = some x) : (rCs xs)[i * 3]? = some (.int .u32 (ka x.1)) ∧ (rCs xs)[i * 3 + 1]? = some (.int .i64 x.1.length) ∧ (rCs xs)[i * 3 + 2]? = some (.int .i64 x.2) := by
  induction xs generalizing i with
  | nil => simp at h
  | cons q L ih =>
    have e : rCs (q :: L) = .int .u32 (ka q.1) :: .int .i64 q.1.length :: .int .i64 q.2 :: rCs L := by simp [rCs, rC]
    cases i with
    | zero => simp at h; subst h; rw [e]; exact ⟨rfl, rfl, rfl⟩
    | succ i =>
      simp at h
      obtain ⟨h1, h2, h3⟩ := ih h
      rw [e, show (i + 1) * 3 = i * 3 + 1 + 1 + 1 by omega, show i * 3 + 1 + 1 + 1 + 1 = (i * 3 + 1) + 1 + 1 + 1 by omega, show i * 3 + 1 + 1 + 1 + 2 = (i * 3 + 2) + 1 + 1 + 1 by omega]
      simp only [List.getElem?_cons_succ]
      exact ⟨h1, h2, h3⟩
theorem rl_of_row {W : World} {B : Nat} {v : Value} {e : TypeId} {L : List (Key × Int)} (h : W.ownsRow B e 3 v L.length (rCs L)) (h0 : 0 < W.heap.size) :
    ∃ (base : Option Addr) (g cap : Nat), v = .slice base L.length cap ∧ RL W base g 0 L ∧ (base = none ∨ B ≤ g) ∧ L.length ≤ cap := by
  rcases h.2 with ⟨rfl, hl⟩ | ⟨g, cap, cur, rfl, hb, hc, h1, h2, h3, h4⟩
  · have : L = [] := List.eq_nil_of_length_eq_zero hl
    subst this
    exact ⟨none, 0, 0, rfl, RL.none h0 0, .inl rfl, by simp⟩
  · refine ⟨some ⟨g, 0, none⟩, g, cap, rfl, ⟨(Array.getElem?_eq_some_iff.1 hc).1, fun i r hr => ⟨rfl, ?_⟩⟩, .inr hb, h1⟩
    obtain ⟨k1, k2, k3⟩ := rCs_at hr
    have ha : ∀ {j : Nat} {u : Value}, (rCs L)[j]? = some u → cur[j]? = some u := fun {j u} hj => by
      rw [← h4, List.getElem?_take] at hj
      split at hj
      · simpa using hj
      · cases hj
    simp only [Nat.zero_add]
    rw [cell_heap hc, cell_heap hc, cell_heap hc]
    exact ⟨ha k1, ha k2, ha k3⟩

/-- what is handed to a round -/
def rAt (L : List (Key × Int)) (k : Fin L.length) : Key × Int := L[k.1]'k.2
def encR (L : List (Key × Int)) (k : Fin L.length) : Array Value := #[.agg #[.int .u32 (ka (rAt L k).1), .int .i64 (rAt L k).1.length], .int .i64 (rAt L k).2]
/-- a round keeps the box and the list -/
def KpA (b g : Nat) (W W' : World) : Prop := W'.heap[b]? = W.heap[b]? ∧ W'.heap[g]? = W.heap[g]?
theorem kpA_t {b g : Nat} {A B C : World} (h : KpA b g A B) (k : KpA b g B C) : KpA b g A C := ⟨k.1.trans h.1, k.2.trans h.2⟩
theorem kpA_b {b g : Nat} {w : World} (hb : b < w.heap.size) (h2 : g < w.heap.size) (W : World) (l : Nat) (o o' : Obj) (hl : w.heap.size ≤ l) (_ : W.heap[l]? = some o) (_ : o.isCells = false) (_ : o.isWalk = false) : KpA b g W (W.putObj l o') := by
  unfold KpA World.putObj
  simp only [Array.getElem?_setIfInBounds]
  rw [if_neg (by omega), if_neg (by omega)]
  exact ⟨rfl, rfl⟩

set_option maxRecDepth 100000 in
set_option maxHeartbeats 2000000 in
theorem told1_in (n l Bs g o cap : Nat) (base : Option Addr) (L : List (Key × Int)) (hL : L.length < 1000000) (J Jx : List (Fin L.length) → World → Prop) (W : World) (hJ : AbidesFrom W.heap.size J)
    (hY : ∀ pre x W1, J pre W1 → pre.length < L.length → YieldAt Fence.wide (n - 1) Tryd.prog l (encR L x) W1 fun e W' =>
      (e = .returned (.bool true) ∧ J (pre ++ [x]) W' ∧ KpA Bs g W1 W') ∨ (e = .returned (.bool false) ∧ Jx (pre ++ [x]) W'))
    (hB : W.heap[Bs]? = some (.cells #[.slice base L.length cap] 71)) (hS : RL W base g o L) (h0 : J [] W) :
    CallsIn Fence.wide n Tryd.prog 60 #[.func (.yield l) #[] #[], .pointer (some ⟨Bs, 0, none⟩)] W fun e W' => (∃ v, e = .returned v) ∧
      ((∃ xs, xs = upF L.length L.length ∧ J xs W') ∨ (∃ pre, (∃ k, k ≤ L.length ∧ pre = upF L.length k) ∧ Jx pre W')) := by
  refine callsIn_of_wp Tryd.func60 rfl trivial ?_ rfl
  simp only [Tryd.ntmps60, List.size_toArray, List.length_cons, List.length_nil, Nat.reduceAdd, Nat.reduceSub, Array.replicate_succ, Array.replicate_zero, List.push_toArray, List.append_toArray, List.nil_append, List.cons_append]
  have hJn : ∀ pre A o, J pre A → J pre (A.alloc o) := fun pre A o h => hJ pre A _ none h (World.grownBy_alloc A o none) (by simp)
  have HJ := Lib.hid hJn
  clear hJn hJ
  have HY := Lib.hid hY
  clear hY
  have e0 : W.cell? ⟨Bs, 0, none⟩ = some (.slice base L.length cap) := by simp [World.cell?, hB]
  refine wpIn_wide.2 ?_
  go_wp2_with fail
  go_step3
  go_wp2_with fail
  refine wp_label ?_
  go_wp2_with fail
  refine (wpIn_wide (n := n)).1 ?_
  gi_loopw [7] (fun i wr => ∃ (k : Nat), k ≤ L.length ∧ i = .int .i64 k ∧ J (upF L.length k) wr ∧ RL wr base g o L) (fun i _ => L.length - (intOf i).toNat)
  case atStart => exact ⟨0, by omega, rfl, by rw [upF_zero]; exact h0, hS⟩
  case round =>
    obtain ⟨k, hk, rfl, hJk, hSk⟩ := hrel
    clear h0 hS
    by_cases hkL : k < L.length
    · have t1 : decide ((k : Int) < (L.length : Int)) = true := by simp [hkL]
      have t1' : decide (k < L.length) = true := by simp [hkL]
      have i0 : (0 : Int) ≤ (k : Int) := by omega
      obtain ⟨r, hr⟩ : ∃ r, L[k]? = some r := ⟨_, List.getElem?_eq_getElem hkL⟩
      have hra : rAt L ⟨k, hkL⟩ = r := by
        unfold rAt
        have := List.getElem?_eq_getElem hkL
        rw [hr] at this
        exact (Option.some.inj this).symm
      obtain ⟨rfl, z0, z1, z2⟩ := hSk.row k r hr
      have hgl := hSk.lt
      have HS := Lib.hid hSk
      have HJk := Lib.hid hJk
      clear hSk hJk hr
      obtain ⟨fn, tmps, assign, body, hy, hR⟩ := (HY.out (upF L.length k) ⟨k, hkL⟩ _ (HJ.out _ _ (.cells #[.int .u32 (ka r.1), .int .i64 r.1.length, .int .i64 r.2] 74) HJk.out) (by rw [upF_len hk]; exact hkL)).mono (R' := fun e W' => ∃ b : Bool, e = .returned (.bool b) ∧ (b = true → J (upF L.length (k + 1)) W' ∧ KpA Bs g (wr.alloc (.cells #[.int .u32 (ka r.1), .int .i64 r.1.length, .int .i64 r.2] 74)) W') ∧ (b = false → Jx (upF L.length (k + 1)) W')) (by
        rintro e W' (⟨he, h1, h2⟩ | ⟨he, h1⟩)
        · exact ⟨true, he, fun _ => ⟨by rw [upF_succ hkL]; exact h1, h2⟩, by simp⟩
        · exact ⟨false, he, by simp, fun _ => by rw [upF_succ hkL]; exact h1⟩)
      simp only [encR, hra] at hy
      gi_wp2_with fail
      refine ⟨wide_d, hR.mono ?_⟩
      rintro e W3 ⟨b, rfl, hb1, hb2⟩
      clear hR hy
      cases b with
      | false =>
        have hJ3 := hb2 rfl
        clear hb1 hb2
        gi_wp2_with fail
        rw [Exit.noGoto_normal]
        go_end0
        exact ⟨⟨_, rfl⟩, .inr ⟨_, ⟨k + 1, by omega, rfl⟩, hJ3⟩⟩
      | true =>
        obtain ⟨hJ3, hK3⟩ := hb1 rfl
        clear hb1 hb2
        have HJ3 := Lib.hid hJ3
        have HK3 := Lib.hid hK3
        clear hJ3 hK3
        gi_wp2_with fail
        refine ⟨⟨k + 1, by omega, by go_num, HJ3.out, ?_⟩, by simp [intOf]; omega⟩
        exact HS.out.of_block (HK3.out.2.trans (Below.heap_alloc _ _ g hgl))
    · obtain rfl : k = L.length := by omega
      gi_wp2_with fail
      rw [Exit.noGoto_normal]
      go_end0
      exact ⟨⟨_, rfl⟩, .inl ⟨_, rfl, hJk⟩⟩

theorem told_stops (n Bs g o cap : Nat) (base : Option Addr) (L : List (Key × Int)) (hL : L.length < 1000000) (w : World) (hB : w.heap[Bs]? = some (.cells #[.slice base L.length cap] 71)) (hS : RL w base g o L) :
    SeqStopsK Fence.wide n Tryd.prog 60 #[.pointer (some ⟨Bs, 0, none⟩)] (encR L) (KpA Bs g) (fun xs => xs = upF L.length L.length) (fun pre => ∃ k, k ≤ L.length ∧ pre = upF L.length k) L.length w :=
  fun l J Jx W hW hJ _ hY h0 => told1_in n l Bs g o cap base L hL J Jx W hJ hY ((hW.block Bs (Array.getElem?_eq_some_iff.1 hB).1).trans hB) (hS.below hW) h0
end Go.Proofs.YtbacahoihkpkpaaDoor
