/- The function value of trie.down, as an iterator. -/
import Derived.Test.YtbacahoihkpkpaaDoorT2
import Derived.Test.YtbacahoihkpkpaaDoorD2
import Derived.Test.YtbacahoihkpkpaaDoorT0
import Derived.Sort.LoopGhostIn
namespace Go.Proofs.YtbacahoihkpkpaaDoor
open Go.RowKit Go.Shelf
open Go.Sort (grow)

attribute [local go_sem] Oper.semAt_some

/-- a round keeps these blocks -/
def KpS (S : List Nat) (W W' : World) : Prop := ∀ c ∈ S, W'.heap[c]? = W.heap[c]?
theorem kpS_t {S : List Nat} {A B C : World} (h : KpS S A B) (k : KpS S B C) : KpS S A C := fun c hc => (k c hc).trans (h c hc)
theorem kpS_b {S : List Nat} {w : World} (hS : ∀ c ∈ S, c < w.heap.size) (W : World) (l : Nat) (o o' : Obj) (hl : w.heap.size ≤ l) (_ : W.heap[l]? = some o) (_ : o.isCells = false) (_ : o.isWalk = false) : KpS S W (W.putObj l o') := by
  intro c hc
  have := hS c hc
  unfold World.putObj
  simp only [Array.getElem?_setIfInBounds]
  rw [if_neg (by omega)]
theorem kpS_below {S : List Nat} {W W' : World} (hS : ∀ c ∈ S, c < W.heap.size) (h : Below W.heap.size W W') : KpS S W W' := fun c hc => h.block c (hS c hc)
theorem kpS_lt {S : List Nat} {W W' : World} (hS : ∀ c ∈ S, c < W.heap.size) (h : KpS S W W') : ∀ c ∈ S, c < W'.heap.size := by
  intro c hc
  have h1 := h c hc
  rcases Nat.lt_or_ge c W'.heap.size with h2 | h2
  · exact h2
  · rw [Array.getElem?_eq_none h2, Array.getElem?_eq_getElem (hS c hc)] at h1; cases h1
theorem RelsAt.kp {W W' : World} (h : RelsAt W) (e : W'.heap[0]? = W.heap[0]?) : RelsAt W' := by
  have hc : ∀ o, W'.cell? ⟨0, o, none⟩ = W.cell? ⟨0, o, none⟩ := fun o => World.cell?_of_block (w := W) (a := ⟨0, o, none⟩) e
  exact ⟨(hc 0).trans h.c0, (hc 1).trans h.c1, (hc 2).trans h.c2, (hc 3).trans h.c3⟩
theorem TAt.kp {S : List Nat} {W W' : World} {a : Addr} {t : TT} (h : TAt W a t) (ha : a.spot = none) (h1 : a.block ∈ S) (h2 : ∀ c ∈ t.blocks, c ∈ S) (hk : KpS S W W') : TAt W' a t := by
  obtain ⟨b, o, p⟩ := a
  simp only at ha h1
  subst ha
  exact ⟨(World.cell?_of_block (hk b h1)).trans h.1, h.2.of_blocks fun c hc => hk c (h2 c hc)⟩

theorem isOr_q (p n : Key) (r : Bool) (hp : p.length ≤ 32) (hn : n.length ≤ 32) (hr : decide (n <+: p) = r) (w : World) (hw : RelsAt w) (d : Nat) (os : Array Obj) :
    Calls Tryd.prog 76 #[.agg #[.int .u32 (ka p), .int .i64 p.length], .agg #[.int .u32 (ka n), .int .i64 n.length]] (grow (redrawn w d) os) fun e w'' => e = .returned (.bool r) ∧ ∃ p : Regrown, w'' = grow (redrawn w p.d) p.os :=
  Calls.regrown_of (isOrWithin_any p n r hp hn hr _ (hw.below (below_regrown w d os)))

theorem Bit_q0 (p : Key) (j : Nat) (w : World) (m : Nat) (hj : j < 32) (h : p.getD j false = false) : Calls Tryd.prog 61 #[.int .u32 (ka p), .int .i64 j] (w.drewN m) fun e w' => e = .returned (.int .i64 0) ∧ ∃ m, w' = w.drewN m :=
  (Bit_any (ka p) j _ (ka_0 p) (ka_1 p)).mono fun _ _ ⟨he, hw⟩ => ⟨by rw [he, ka_bitI hj, h]; rfl, m, hw.symm⟩
theorem Bit_q1 (p : Key) (j : Nat) (w : World) (m : Nat) (hj : j < 32) (h : p.getD j false = true) : Calls Tryd.prog 61 #[.int .u32 (ka p), .int .i64 j] (w.drewN m) fun e w' => e = .returned (.int .i64 1) ∧ ∃ m, w' = w.drewN m :=
  (Bit_any (ka p) j _ (ka_0 p) (ka_1 p)).mono fun _ _ ⟨he, hw⟩ => ⟨by rw [he, ka_bitI hj, h]; rfl, m, hw.symm⟩
def upF (n k : Nat) : List (Fin n) := (List.finRange n).take k
theorem upF_succ {n k : Nat} (h : k < n) : upF n (k + 1) = upF n k ++ [⟨k, h⟩] := by
  unfold upF
  rw [List.take_succ_eq_append_getElem (by simpa using h)]
  simp
theorem upF_len {n k : Nat} (h : k ≤ n) : (upF n k).length = k := by simp [upF, h]
theorem upF_zero (n : Nat) : upF n 0 = [] := by simp [upF]
/-- the way down to p, from the box q on -/
abbrev wayQ (t : TT) (p : Key) (q : Nat) : List (Addr × TT) := t.way p ⟨q, 0, none⟩
def wayAt (t : TT) (p : Key) (q : Nat) (x : Fin (wayQ t p q).length) : Addr × TT := (wayQ t p q)[x.1]'x.2
theorem wayAt_eq {t : TT} {p : Key} {q m : Nat} {y : Addr × TT} {L : List (Addr × TT)} (h : (wayQ t p q).drop m = y :: L) : ∃ hm : m < (wayQ t p q).length, wayAt t p q ⟨m, hm⟩ = y ∧ (wayQ t p q).drop (m + 1) = L := by
  have hm : m < (wayQ t p q).length := by
    rcases Nat.lt_or_ge m (wayQ t p q).length with h' | h'
    · exact h'
    · rw [List.drop_of_length_le h'] at h; cases h
  refine ⟨hm, ?_⟩
  rw [List.drop_eq_getElem_cons hm] at h
  exact ⟨(List.cons.inj h).1, (List.cons.inj h).2⟩
def encD (t : TT) (p : Key) (q : Nat) (x : Fin (wayQ t p q).length) : Array Value := #[.pointer (some (wayAt t p q x).1)]

/-- between two rounds: what is left of the way -/
def dR (W : World) (S : List Nat) (p : Key) (t : TT) (q : Nat) (J : List (Fin (wayQ t p q).length) → World → Prop) (m : Nat) (i : Value) (wr : World) : Prop :=
  ∃ (s : TT) (a : Addr) (n : Nat), m = s.sz ∧ i = .pointer (some a) ∧ (n ≤ (wayQ t p q).length ∧ (wayQ t p q).drop n = s.way p a) ∧ J (upF _ n) wr ∧ TAt W a s ∧ a.spot = none ∧ a.block ∈ S ∧ (∀ c ∈ s.blocks, c ∈ S) ∧ (∀ x ∈ s.keys, x.length ≤ 32) ∧ KpS S W wr

set_option maxRecDepth 100000 in
set_option maxHeartbeats 2000000 in
theorem down1_in (n l Bq Bp q : Nat) (p : Key) (t : TT) (S : List Nat) (hp : p.length ≤ 32) (hlen : ∀ x ∈ t.keys, x.length ≤ 32) (J Jx : List (Fin (wayQ t p q).length) → World → Prop) (W : World) (hJ : AbidesFrom W.heap.size J)
    (hY : ∀ pre x W1, J pre W1 → pre.length < (wayQ t p q).length → YieldAt Fence.wide (n - 1) Tryd.prog l (encD t p q x) W1 fun e W' =>
      (e = .returned (.bool true) ∧ J (pre ++ [x]) W' ∧ KpS S W1 W') ∨ (e = .returned (.bool false) ∧ Jx (pre ++ [x]) W'))
    (hBq : W.heap[Bq]? = some (.cells #[.pointer (some ⟨q, 0, none⟩)] 28)) (hBp : W.heap[Bp]? = some (.cells #[.int .u32 (ka p), .int .i64 p.length] 26)) (hT : TAt W ⟨q, 0, none⟩ t) (hR : RelsAt W)
    (hS : ∀ c ∈ S, c < W.heap.size) (s1 : Bp ∈ S) (s2 : q ∈ S) (s3 : ∀ c ∈ t.blocks, c ∈ S) (s4 : 0 ∈ S) (h0 : J [] W) :
    CallsIn Fence.wide n Tryd.prog 75 #[.func (.yield l) #[] #[], .pointer (some ⟨Bq, 0, none⟩), .pointer (some ⟨Bp, 0, none⟩)] W fun e W' => (∃ v, e = .returned v) ∧
      ((∃ xs, xs = upF (wayQ t p q).length (wayQ t p q).length ∧ J xs W') ∨ (∃ pre, (∃ k, k ≤ (wayQ t p q).length ∧ pre = upF (wayQ t p q).length k) ∧ Jx pre W')) := by
  refine callsIn_of_wp Tryd.func75 rfl trivial ?_ rfl
  simp only [Tryd.ntmps75, List.size_toArray, List.length_cons, List.length_nil, Nat.reduceAdd, Nat.reduceSub, Array.replicate_succ, Array.replicate_zero, List.push_toArray, List.append_toArray, List.nil_append, List.cons_append]
  have HJ := Lib.hid hJ
  have HY := Lib.hid hY
  have HT := Lib.hid hT
  have HR := Lib.hid hR
  have HS := Lib.hid hS
  have Hs1 := Lib.hid s1
  have Hs3 := Lib.hid s3
  have HBp := Lib.hid hBp
  have Hln := Lib.hid hlen
  have e0 : W.cell? ⟨Bq, 0, none⟩ = some (.pointer (some ⟨q, 0, none⟩)) := by simp [World.cell?, hBq]
  clear hJ hY hT hR hS s1 s3 hBp hBq hlen
  gi_wp2_with fail
  gi_loopg [4] t.sz (dR W S p t q J)
  case atStart => exact ⟨t, ⟨q, 0, none⟩, 0, rfl, rfl, ⟨by omega, rfl⟩, by rw [upF_zero]; exact h0, HT.out, rfl, s2, Hs3.out, Hln.out, fun _ _ => rfl⟩
  case round =>
    obtain ⟨s, a, m, hm, rfl, ⟨hmn, hway⟩, hJp, hTA, hsp, hab, hsb, hlen, hK⟩ := hrel
    have hRw := HR.out.kp (hK 0 s4)
    have hBw : wr.heap[Bp]? = some (.cells #[.int .u32 (ka p), .int .i64 p.length] 26) := (hK Bp Hs1.out).trans HBp.out
    have hTw := hTA.kp hsp hab hsb hK
    have hSw : ∀ c ∈ S, c < wr.heap.size := kpS_lt HS.out hK
    obtain ⟨ab, ao, ap⟩ := a
    simp only at hsp hab
    subst hsp
    have c0 : wr.cell? ⟨Bp, 0, none⟩ = some (.int .u32 (ka p)) := by simp [World.cell?, hBw]
    have c1 : wr.cell? ⟨Bp, 1, none⟩ = some (.int .i64 p.length) := by simp [World.cell?, hBw]
    have ca := hTw.1
    have HM := Lib.hid hm
    have HW := Lib.hid hway
    have HJp := Lib.hid hJp
    have HTA := Lib.hid hTA
    have Hab := Lib.hid hab
    have Hsb := Lib.hid hsb
    have HLn := Lib.hid hlen
    have HK := Lib.hid hK
    have HRw := Lib.hid hRw
    have HBw := Lib.hid hBw
    have HTw := Lib.hid hTw
    have HSw := Lib.hid hSw
    clear hSw
    clear hm hway hJp hTA hab hsb hlen hK hRw hBw hTw h0
    cases s with
    | nil =>
      simp only [TT.ptr] at ca
      refine wpIn_wide.2 ?_
      go_wp2_with fail
      go_quiet (fail)
      go_wp2_with fail
      go_end0
      have hN : m = (wayQ t p q).length := by have h := HW.out; simp only [TT.way, List.drop_eq_nil_iff] at h; omega
      exact ⟨⟨_, rfl⟩, .inl ⟨_, rfl, HJ.out _ _ _ none (hN ▸ HJp.out) (below_grownBy (below_drewN (Below.refl _ _) nq)) (by simp)⟩⟩
    | node b k o l' r' =>
      have hin := HTw.out.2
      have n0 := cell_regrown hin.c0
      have n1 := cell_regrown hin.c1
      have g0 := cell_regrown c0
      have g1 := cell_regrown c1
      have ga := cell_regrown ca
      have hk32 := HLn.out k (by simp [TT.keys])
      simp only [TT.ptr] at ga
      clear c0 c1 ca hin
      cases hpre : decide (k <+: p) with
      | false =>
        have hQ := Lib.hid (isOr_q p k false hp hk32 hpre wr HRw.out)
        refine wpIn_wide.2 ?_
        go_wp2_with fail
        refine wp_region_quiet_below (by kernel_rfl) (by kernel_rfl) ?_
        repeat (first | go_big_quiet_step (exact hQ.out _ _) | quiet_step (exact hQ.out _ _))
        refine wpQuiet_nil ?_
        intro _ hw'
        obtain ⟨⟨dq, osq⟩, hw''⟩ := hw'
        subst hw''
        go_wp2_with fail
        go_end0
        have hk : ¬ k <+: p := by simpa using hpre
        have hN : m = (wayQ t p q).length := by have h := HW.out; simp only [TT.way, if_neg hk, List.drop_eq_nil_iff] at h; omega
        exact ⟨⟨_, rfl⟩, .inl ⟨_, rfl, HJ.out _ _ _ none (hN ▸ HJp.out) (below_grownBy (below_regrown _ _ _)) (by simp)⟩⟩
      | true =>
        have hk : k <+: p := by simpa using hpre
        have hQ := Lib.hid (isOr_q p k true hp hk32 hpre wr HRw.out)
        have HKp := Lib.hid hk
        clear hk hpre
        refine wpIn_wide.2 ?_
        go_wp2_with fail
        refine wp_region_quiet_below (by kernel_rfl) (by kernel_rfl) ?_
        repeat (first | go_big_quiet_step (exact hQ.out _ _) | quiet_step (exact hQ.out _ _))
        refine wpQuiet_nil ?_
        intro _ hw'
        obtain ⟨⟨dq, osq⟩, hw''⟩ := hw'
        subst hw''
        have hb1 : Below wr.heap.size wr (grow (redrawn wr dq) osq) := below_regrown _ _ _
        have ga1 := ga dq osq
        generalize grow (redrawn wr dq) osq = w1 at *
        have hJ1 := HJ.out _ _ w1 none HJp.out (below_grownBy hb1) (by simp)
        have hK1 := kpS_t HK.out (kpS_below HSw.out hb1)
        have HB1 := Lib.hid hb1
        clear n0 n1 g0 g1 ga hb1 hQ
        go_wp2_with fail
        refine (wpIn_wide (n := n)).1 ?_
        obtain ⟨hpl, hat, hdr⟩ := wayAt_eq (y := (⟨ab, ao, none⟩, TT.node b k o l' r')) (L := if k.length = p.length then [] else if p.getD k.length false then r'.way p ⟨b, 5, none⟩ else l'.way p ⟨b, 4, none⟩) (by rw [HW.out]; simp only [TT.way, if_pos HKp.out])
        obtain ⟨fn, tmps, assign, body, hy, hR⟩ := (HY.out (upF _ m) ⟨m, hpl⟩ w1.drew (HJ.out _ _ _ none hJ1 (below_grownBy (Below.refl _ _).drew) (by simp)) (by rw [upF_len hmn]; exact hpl)).mono (R' := fun e W' => ∃ bb : Bool, e = .returned (.bool bb) ∧ (bb = true → J (upF _ (m + 1)) W' ∧ KpS S w1.drew W') ∧ (bb = false → Jx (upF _ (m + 1)) W')) (by
          rintro e W' (⟨he, h1, h2⟩ | ⟨he, h1⟩)
          · exact ⟨true, he, fun _ => ⟨by rw [upF_succ hpl]; exact h1, h2⟩, by simp⟩
          · exact ⟨false, he, by simp, fun _ => by rw [upF_succ hpl]; exact h1⟩)
        simp only [encD, hat] at hy
        have HDr := Lib.hid hdr
        clear hdr hat
        have hm : Tryd.prog.follows .mixedOrders = true := by kernel_rfl
        refine wpIn_region_yield rfl hm rfl rfl rfl rfl rfl (by kernel_rfl) rfl ?_
        go_simp
        refine ⟨wide_d, hR.mono ?_⟩
        rintro e W3 ⟨bb, rfl, hb1, hb2⟩
        clear hR hy
        cases bb with
        | false =>
          have hJ3 := hb2 rfl
          clear hb1 hb2
          simp only []
          repeat (gi_big_quiet_step (fail))
          refine wpQuietIn_nil ?_
          go_wp2_with fail
          refine bodyPost_ret (results_none rfl _ _ _) rfl ?_
          exact ⟨⟨_, rfl⟩, .inr ⟨_, ⟨m + 1, hpl, rfl⟩, hJ3⟩⟩
        | true =>
          obtain ⟨hJ3, hK3⟩ := hb1 rfl
          clear hb1 hb2
          have hK4 := kpS_t (kpS_t hK1 (fun c _ => rfl)) hK3
          have HTw3 := HTA.out.kp rfl Hab.out Hsb.out hK4
          have HBp3 := (hK4 Bp Hs1.out).trans HBp.out
          have n1 := HTw3.2.c1
          have g1 : W3.cell? ⟨Bp, 1, none⟩ = some (.int .i64 p.length) := by simp [World.cell?, HBp3]
          have g0 : W3.cell? ⟨Bp, 0, none⟩ = some (.int .u32 (ka p)) := by simp [World.cell?, HBp3]
          simp only []
          by_cases hl : k.length = p.length
          · have t1 : ((k.length : Int) == (p.length : Int)) = true := by simp [hl]
            have t2 : (k.length == p.length) = true := by simp [hl]
            repeat (gi_big_quiet_step (fail))
            refine wpQuietIn_nil ?_
            go_wp2_with fail
            refine bodyPost_ret (results_none rfl _ _ _) rfl ?_
            have hN : m + 1 = (wayQ t p q).length := by have h := HDr.out; rw [if_pos hl, List.drop_eq_nil_iff] at h; omega
            rw [hN] at hJ3
            exact ⟨⟨_, rfl⟩, .inl ⟨_, rfl, hJ3⟩⟩
          · have hl2 := HKp.out.length_le
            have t1 : ((k.length : Int) == (p.length : Int)) = false := by simp; omega
            have t2 : (k.length == p.length) = false := by simp [hl]
            have hk31 : k.length < 32 := by omega
            have n0 := HTw3.2.c0
            have HTw4 := Lib.hid HTw3
            have HK4 := Lib.hid hK4
            have HJ3 := Lib.hid hJ3
            have HL := Lib.hid hl
            clear hK3 hK4 HTw3 hJ3 hl hJ1 hK1 HBp3
            cases hbit : p.getD k.length false
            · have HBit := Lib.hid hbit
              clear hbit
              repeat (gi_big_quiet_step (fail))
              refine wpQuietIn_nil ?_
              go_wp2_with fail
              go_quiet ((go_at_call 61; exact Bit_q0 p k.length _ _ hk31 HBit.out))
              go_wp2_with fail
              go_roundg (l'.sz)
              case measure => have := HM.out; simp only [TT.sz] at this; omega
              case rel =>
                refine ⟨l', ⟨b, 4, none⟩, m + 1, rfl, rfl, ⟨hpl, ?_⟩, ?_, HTA.out.l, rfl, Hsb.out b (by simp [TT.blocks]), fun c hc => Hsb.out c (by simp [TT.blocks, hc]), fun x hx => HLn.out x (by simp [TT.keys, hx]), kpS_t HK4.out (fun _ _ => rfl)⟩
                · rw [HDr.out, if_neg HL.out, HBit.out]
                  simp
                · exact HJ.out _ _ _ none HJ3.out (below_grownBy (below_drewN (Below.refl _ _) nq)) (by simp)
            · have HBit := Lib.hid hbit
              clear hbit
              repeat (gi_big_quiet_step (fail))
              refine wpQuietIn_nil ?_
              go_wp2_with fail
              go_quiet ((go_at_call 61; exact Bit_q1 p k.length _ _ hk31 HBit.out))
              go_wp2_with fail
              go_roundg (r'.sz)
              case measure => have := HM.out; simp only [TT.sz] at this; omega
              case rel =>
                refine ⟨r', ⟨b, 5, none⟩, m + 1, rfl, rfl, ⟨hpl, ?_⟩, ?_, HTA.out.r, rfl, Hsb.out b (by simp [TT.blocks]), fun c hc => Hsb.out c (by simp [TT.blocks, hc]), fun x hx => HLn.out x (by simp [TT.keys, hx]), kpS_t HK4.out (fun _ _ => rfl)⟩
                · rw [HDr.out, if_neg HL.out, HBit.out]
                  simp
                · exact HJ.out _ _ _ none HJ3.out (below_grownBy (below_drewN (Below.refl _ _) nq)) (by simp)

theorem down_stops (n Bq Bp q : Nat) (p : Key) (t : TT) (S : List Nat) (hp : p.length ≤ 32) (hlen : ∀ x ∈ t.keys, x.length ≤ 32) (w : World)
    (hBq : w.heap[Bq]? = some (.cells #[.pointer (some ⟨q, 0, none⟩)] 28)) (hBp : w.heap[Bp]? = some (.cells #[.int .u32 (ka p), .int .i64 p.length] 26)) (hT : TAt w ⟨q, 0, none⟩ t) (hR : RelsAt w)
    (hS : ∀ c ∈ S, c < w.heap.size) (s1 : Bp ∈ S) (s2 : q ∈ S) (s3 : ∀ c ∈ t.blocks, c ∈ S) (s4 : 0 ∈ S) :
    SeqStopsK Fence.wide n Tryd.prog 75 #[.pointer (some ⟨Bq, 0, none⟩), .pointer (some ⟨Bp, 0, none⟩)] (encD t p q) (KpS S) (fun xs => xs = upF (wayQ t p q).length (wayQ t p q).length) (fun pre => ∃ k, k ≤ (wayQ t p q).length ∧ pre = upF (wayQ t p q).length k) (wayQ t p q).length w :=
  fun l J Jx W hW hJ _ hY h0 => by
    have hk := kpS_below hS hW
    exact down1_in n l Bq Bp q p t S hp hlen J Jx W hJ hY ((hW.block Bq (Array.getElem?_eq_some_iff.1 hBq).1).trans hBq) ((hk Bp s1).trans hBp) (hT.kp rfl s2 s3 hk) (hR.kp (hk 0 s4)) (kpS_lt hS hk) s1 s2 s3 s4 h0
end Go.Proofs.YtbacahoihkpkpaaDoor
