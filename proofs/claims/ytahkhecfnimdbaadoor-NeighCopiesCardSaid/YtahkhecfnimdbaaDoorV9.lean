/- The reference: Hear of a new neighbour. -/
import Derived.Test.YtahkhecfnimdbaaDoorV8
namespace Go.Proofs.YtahkhecfnimdbaaDoor
open Go.RowKit Go.Maps

theorem add_block (b o j : Nat) : ((⟨b, o, none⟩ : Addr).add j).block = b := by unfold Addr.add; split <;> simp_all
/-- append at a step of a region that draws: what is appended may be empty -/
theorem step_append_at {P : Program} (w : World) {ops : Array Oper} {o : Oper} {a : Act} {K : Act → World → Prop} {Q : Exit → Act → World → Prop} {E : Prop} (hgd : o.guard = none) (s x : Operand) (t : TypeId)
    (ho : o.op = .call { callee := .builtin .append, args := #[s, x], argTypes := #[t, t] })
    (base : Nat) (e : TypeId) (i : TypeInfo) (z : Value) (size bytes : Nat) (ht : P.underlying t = some (.slice e)) (hi : P.info? e = some i) (hz : i.zero = some z)
    (hsize : i.size = size) (hby : i.bytes = bytes) (hzs : z.cells.size = size) (hsz : 0 < size)
    (v : Value) (n : Nat) (xs : List Value) (hs : a.eval s = v) (hown : w.ownsRow base e size v n xs) (hv : v ≠ .slice none 0 0)
    (ad : Addr) (m c : Nat) (news : List Value) (hx : a.eval x = .slice (some ad) m c) (hl : news.length = m * size) (hnews : ∀ j u, news[j]? = some u → w.cell? (ad.add j) = some u) (h1 : ∀ u ∈ news, u.oneCell' = true)
    (N : Nat) (hN : n + m = N) (L : List Value) (hL : xs ++ news = L) (h63 : N ≤ maxLen) (hbytes : N * bytes ≤ 140737488355328) (hbase : base ≤ w.heap.size)
    (h : ∀ g cap w', w'.ownsRow base e size (.slice (some ⟨g, 0, none⟩) N cap) N L → w.grownBy w' v.ownBlock → base ≤ g → (v.ownBlock = some g ∨ g = w.heap.size) → K (a.put o.dst (.slice (some ⟨g, 0, none⟩) N cap)) w') :
    if Region.wanted o (yielded ops a.tmps) = true then Oper.wp P o a w K Q else E := by
  have hw : Region.wanted o (yielded ops a.tmps) = true := by simp [Region.wanted, hgd]
  rw [if_pos hw]
  subst hN
  subst hL
  obtain ⟨v', w', hr, h2, h3, h4, h5⟩ := run_append_own_at (P := P) w base t o.type e i z size bytes ht hi hz hsize hby hzs hsz v n xs hown ad m c news hl hnews h1 h63 hbytes hbase
  obtain ⟨g, cap, rfl, hg⟩ : ∃ g cap, v' = .slice (some ⟨g, 0, none⟩) (n + m) cap ∧ base ≤ g := by
    rcases h2.2 with ⟨h0, _⟩ | ⟨g, cap, cur, hv, hb, _⟩
    · exact absurd (h4.1 h0).1 hv
    · exact ⟨g, cap, hv, hb⟩
  unfold Oper.wp execOp
  simp only [ho, resolve, invoke, builtin, Sem.run_bind, Sem.run_pure, Result.andThen_ok, List.map_toArray, List.map_cons, List.map_nil, hs, hx, hr]
  refine h g cap w' h2 h3 hg ?_
  rcases h5 with h5 | h5
  · exact .inl (by rw [← h5]; rfl)
  · exact .inr (by simpa [Value.ownBlock] using h5)

set_option maxHeartbeats 4000000 in
set_option maxRecDepth 100000 in
theorem rHear_new_some (ad : Addr) (g cap : Nat) (T : List Rec) (now lost f a nw bad : Int) (w : World) (hS : SL w (some ad) g T) (hlen : T.length < 1000) (a0 : 0 ≤ a) (a1 : a < 4294967296) (hB : argB f a bad = true)
    (n0 : 0 ≤ now) (n1 : now ≤ nw) (n2 : nw ≤ 4611686018427387904) (hb1 : bad ≤ 9223372036854775807) (hi : atI f a T = none) (h64 : T.length < 64) :
    Calls Tryd.prog 34 #[RN (some ad) T.length cap now lost, .int .i64 f, .int .u32 a, .int .i64 nw, .int .i64 bad] w
      fun e w' => (∃ v, e = .returned (.tuple #[v, .int .i64 0]) ∧ RNew w w' v (insT T ⟨f, a, nw, 1, addC 0 bad⟩) nw lost) ∧ Below w.heap.size w w' := by
  have K := Lib.hid (fun W => rKind_any a W a0 a1)
  have HX0 := Lib.hid (HBx.start w (.slice (some ad) T.length cap) (.int .i64 now) (.int .i64 lost))
  obtain ⟨g1, g2, g3, g4⟩ := argB_iff.1 hB
  have t1 : decide (f < 0) = false := by simp; omega
  have t2 : decide (15 < f) = false := by simp; omega
  have t3 : (kindI a != 6) = false := by simp [g3]
  have t4 : decide (bad < 0) = false := by simp; omega
  have h5 := timeB_of n0 n1 n2
  have t5 : decide (nw < now) = false := by simp; omega
  obtain ⟨i0, hii, hz0, hz1, hz2⟩ := info_parts info40
  have hN : atN f a T = -1 := by unfold atN; rw [hi]
  have HS := Lib.hid hS
  clear g1 g2 g3 hB hS hi
  go_enter Tryd.func34, Tryd.ntmps34
  go_upto_region 6 with (first
      | (go_at_call 44; refine (K.out _).mono ?_; rintro e w1 ⟨rfl, hb⟩; have hx := HX0.out.below hb; have d0 := hx.d0; have d1 := hx.d1; have d2 := hx.d2; have e0 := hx.e0; have e1 := hx.e1; have e2 := hx.e2; have f0 := hx.f0; have f1 := hx.f1; have HX := Lib.hid hx; clear hx hb)
      | (go_at_call 45; refine (Time_any _ _).mono ?_; rw [h5]; rintro e w2 ⟨rfl, rfl⟩)
      | fail)
  clear d0 d1 d2 e0 e1 e2 f0 f1
  have hx5 : HBx w (w1.setCell ⟨w.heap.size, 1, none⟩ (.int .i64 nw)) (.slice (some ad) T.length cap) (.int .i64 nw) (.int .i64 lost) := HX.out.set 1 (.int .i64 nw)
  generalize w1.setCell ⟨w.heap.size, 1, none⟩ (.int .i64 nw) = W5 at *
  clear HX
  have d0 := hx5.d0
  have y0 : w.heap.size < W5.heap.size := by have := hx5.sz; omega
  have hs5 : SL W5 (some ad) g T := HS.out.below hx5.bl
  have hrow0 : (W5.alloc (.cells #[] 40)).ownsRow W5.heap.size 40 5 (.slice (some ⟨W5.heap.size, 0, none⟩) 0 0) 0 [] := World.ownsRow_made W5 #[] 0 (Nat.le_refl _) (by unfold maxLen; omega) rfl
  have hnews := sl_news (hs5.below (below_k W5 (.cells #[] 40))) ad rfl
  have HX5 := Lib.hid hx5
  have HS5 := Lib.hid hs5
  clear hx5 hs5
  go_upto_region 7 with (at_builtin; refine wpList_append_own _ rfl _ _ 45 rfl W5.heap.size 40 i0 (.agg #[.int .i64 0, .int .u32 0, .int .i64 0, .int .i64 0, .int .i64 0]) 5 40 Tryd.underlying45 hii hz0 hz1 hz2 rfl (by decide) _ _ _ rfl hrow0 ad T.length cap (nCs T) rfl (nCs_len T) hnews (nCs_one T) (by unfold maxLen; omega) (by omega) (by simp) ?_; intro v' w3 hown' hgrow hnil)
  have hb53 : Below W5.heap.size W5 w3 := ((Below.refl _ W5).alloc (Nat.le_refl _) (.cells #[] 40)).grown hgrow (by simp) (fun k e => Nat.le_of_eq (Option.some.inj e))
  rw [Nat.zero_add, List.nil_append] at hown'
  obtain ⟨gl, cl, cur, rfl, hgl, hcur⟩ : ∃ (gl cl : Nat) (cur : Array Value), v' = .slice (some ⟨gl, 0, none⟩) T.length cl ∧ W5.heap.size ≤ gl ∧ w3.heap[gl]? = some (.cells cur 40 (0, 0)) := by
    rcases hown'.2 with ⟨h0, _⟩ | ⟨gl, cl, cur, h1, h2, h3, _⟩
    · have := (hnil.1 h0).1
      cases this
    · exact ⟨gl, cl, cur, h1, h2, h3⟩
  have hx3 := HX5.out.below hb53
  have hx4 := hx3.below (below_k w3 (rnObj (some ad) T.length cap nw lost))
  have hA := At_any (some ad) g cap T nw lost f a w3 (HS5.out.below hb53) (by omega)
  rw [hN] at hA
  have HA := Lib.hid hA
  have p0 := hx3.d0
  have p1 := hx3.d1
  have p2 := hx3.d2
  have HX4 := Lib.hid hx4
  have HO := Lib.hid hown'
  have HGL := Lib.hid hgl
  have HCU := Lib.hid hcur
  clear hA hx3 hx4 hcur hown' hgrow hnil hnews hrow0 d0 hgl
  have t6 : decide ((64 : Int) ≤ (T.length : Int)) = false := by simp; omega
  go_upto_region 17 with (go_at_call 19; refine HA.out.mono ?_; rintro e w4 ⟨rfl, rfl⟩)
  have hsl : ∃ c', SL w3 (some ⟨gl, 0, none⟩) c' T ∧ (T ≠ [] → c' = gl) := by
    obtain ⟨b', g', c', he, h2, _⟩ := sl_of_row HO.out (by have := hb53.size; omega)
    obtain ⟨rfl, rfl⟩ : b' = some ⟨gl, 0, none⟩ ∧ c' = cl := by simpa using he.symm
    refine ⟨g', h2, fun hne => ?_⟩
    obtain ⟨q, hq⟩ := List.exists_mem_of_ne_nil T hne
    obtain ⟨j, hj, _⟩ := List.mem_iff_getElem.1 hq
    obtain ⟨e, _⟩ := h2.row j _ (List.getElem?_eq_getElem hj)
    simpa using e.symm
  obtain ⟨gs, hsl, hgs⟩ := hsl
  have HGS := Lib.hid hgs
  clear hgs
  have HS4 := Lib.hid (hsl.below (below_k w3 (rnObj (some ad) T.length cap nw lost)))
  have hX2 : gl < (w3.alloc (rnObj (some ad) T.length cap nw lost)).heap.size := by have h1 := (Array.getElem?_eq_some_iff.1 HCU.out).1; simp; omega
  have HX2 := Lib.hid hX2
  clear hsl p0 p1 p2 hX2
  generalize w3.alloc (rnObj (some ad) T.length cap nw lost) = w4 at *
  go_upto_block 0 with fail
  go_cut [14] (fun s wx => s = .int .i64 (ahead f a T) ∧ wx = w4)
  case first => as_aux_lemma =>
    go_wp2_with fail
    go_loopg [14] T.length (cRel T f a w4)
    case atStart => exact ⟨0, rfl, by omega, rfl, fun j hj => by omega, rfl⟩
    case round =>
      obtain ⟨i, hn, hil, rfl, hno, rfl⟩ := hrel
      have Hn := Lib.hid hn
      have HNo := Lib.hid hno
      clear hn hno
      by_cases hlt : i < T.length
      · obtain ⟨r, hr⟩ : ∃ r, T[i]? = some r := ⟨_, List.getElem?_eq_getElem hlt⟩
        obtain ⟨eg, z0, z1, _⟩ := HS4.out.row i r hr
        obtain rfl : gl = gs := by simpa using eg
        have HR := Lib.hid hr
        clear hr eg
        by_cases h1 : r.face < f
        · have t1 : decide (r.face < f) = true := by simp [h1]
          have HF := Lib.hid (show ltB f a r = true by simp [ltB, h1])
          clear h1
          go_wp2_with fail
          go_roundg (T.length - (i + 1))
          case measure => have := Hn.out; omega
          case rel => exact ⟨i + 1, rfl, by omega, by go_num, fun j hj s hs => by
            by_cases e : j = i
            · subst e; rw [HR.out] at hs; cases hs; exact HF.out
            · exact HNo.out j (by omega) s hs, rfl⟩
        · have t1 : decide (r.face < f) = false := by simpa using h1
          by_cases h2 : r.face = f
          · have t2 : (r.face == f) = true := by simp [h2]
            by_cases h3 : r.addr < a
            · have t3 : decide (r.addr < a) = true := by simp [h3]
              have HF := Lib.hid (show ltB f a r = true by simp [ltB, h2, h3])
              clear h1 h2 h3
              go_wp2_with fail
              go_roundg (T.length - (i + 1))
              case measure => have := Hn.out; omega
              case rel => exact ⟨i + 1, rfl, by omega, by go_num, fun j hj s hs => by
                by_cases e : j = i
                · subst e; rw [HR.out] at hs; cases hs; exact HF.out
                · exact HNo.out j (by omega) s hs, rfl⟩
            · have t3 : decide (r.addr < a) = false := by simpa using h3
              have HF := Lib.hid (ahead_step HNo.out HR.out (show ltB f a r = false by simp [ltB, h1, h3]))
              clear h1 h2 h3
              go_wp2_with fail
              go_meet
              exact ⟨by rw [HF.out], rfl⟩
          · have t2 : (r.face == f) = false := by simpa using h2
            have HF := Lib.hid (ahead_step HNo.out HR.out (show ltB f a r = false by simp [ltB, h1, h2]))
            clear h1 h2
            go_wp2_with fail
            go_meet
            exact ⟨by rw [HF.out], rfl⟩
      · obtain rfl : i = T.length := by omega
        have HF := Lib.hid (ahead_all HNo.out)
        go_wp2_with fail
        go_meet
        exact ⟨by rw [HF.out], rfl⟩
  case rest =>
    obtain ⟨rfl, rfl⟩ := hcut
    have hal := ahead_le f a T
    generalize hat : ahead f a T = at0 at *
    go_upto_region 21 with (go_at_call 46; refine (sum_any 0 bad _ (by omega) (by omega) g4 hb1).mono ?_; rintro e w' ⟨rfl, rfl⟩)
    have hcl : T.length ≤ cl := by
      rcases HO.out.2 with ⟨h0, _⟩ | ⟨_, _, _, h1, _, _, h2, _⟩
      · cases h0
      · cases h1; exact h2
    have BX := below_k wc (.cells #[.int .i64 f, .int .u32 a, .int .i64 nw, .int .i64 1, .int .i64 (addC 0 bad)] 40)
    have HXX := Lib.hid (HX4.out.below BX)
    have HSX := Lib.hid (HS4.out.below BX)
    have x0 : (wc.alloc (.cells #[.int .i64 f, .int .u32 a, .int .i64 nw, .int .i64 1, .int .i64 (addC 0 bad)] 40)).cell? ⟨wc.heap.size, 0, none⟩ = some (.int .i64 f) := by simp [go_sem]
    have x1 : (wc.alloc (.cells #[.int .i64 f, .int .u32 a, .int .i64 nw, .int .i64 1, .int .i64 (addC 0 bad)] 40)).cell? ⟨wc.heap.size, 1, none⟩ = some (.int .u32 a) := by simp [go_sem]
    have x2 : (wc.alloc (.cells #[.int .i64 f, .int .u32 a, .int .i64 nw, .int .i64 1, .int .i64 (addC 0 bad)] 40)).cell? ⟨wc.heap.size, 2, none⟩ = some (.int .i64 nw) := by simp [go_sem]
    have x3 : (wc.alloc (.cells #[.int .i64 f, .int .u32 a, .int .i64 nw, .int .i64 1, .int .i64 (addC 0 bad)] 40)).cell? ⟨wc.heap.size, 3, none⟩ = some (.int .i64 1) := by simp [go_sem]
    have x4 : (wc.alloc (.cells #[.int .i64 f, .int .u32 a, .int .i64 nw, .int .i64 1, .int .i64 (addC 0 bad)] 40)).cell? ⟨wc.heap.size, 4, none⟩ = some (.int .i64 (addC 0 bad)) := by simp [go_sem]
    have xs : wc.heap.size < (wc.alloc (.cells #[.int .i64 f, .int .u32 a, .int .i64 nw, .int .i64 1, .int .i64 (addC 0 bad)] 40)).heap.size := by simp
    have HWS := Lib.hid (show (wc.alloc (.cells #[.int .i64 f, .int .u32 a, .int .i64 nw, .int .i64 1, .int .i64 (addC 0 bad)] 40)).heap.size = wc.heap.size + 1 by simp)
    have hX1 := HX4.out.sz
    have hX2 := HX2.out
    clear BX
    generalize wc.alloc (.cells #[.int .i64 f, .int .u32 a, .int .i64 nw, .int .i64 1, .int .i64 (addC 0 bad)] 40) = W at *
    generalize wc.heap.size = X at *
    have m0 : (0 : Int) ≤ (at0 : Int) := by omega
    have m1 : (at0 : Int) ≤ (cl : Int) := by omega
    have m2 : (at0 : Int) ≤ (T.length : Int) := by omega
    have hgsz : gl < W.heap.size := by have h2 := HWS.out; omega
    have hTs : ∀ W', Below W.heap.size W W' → ∀ (j : Nat) (u : Value), (nCs T)[j]? = some u → W'.cell? ⟨gl, j, none⟩ = some u := by
      intro W' hb j u hj
      have hne : T ≠ [] := by rintro rfl; simp [nCs] at hj
      have hs := HSX.out
      rw [HGS.out hne] at hs
      have := sl_news (hs.below hb) ⟨gl, 0, none⟩ rfl j u hj
      rwa [show (⟨gl, 0, none⟩ : Addr).add j = ⟨gl, j, none⟩ by unfold Addr.add; split <;> simp_all] at this
    have hspl : nCs T = nCs (T.take at0) ++ nCs (T.drop at0) := by unfold nCs; rw [← List.flatMap_append, List.take_append_drop]
    have hlT : (nCs (T.take at0)).length = at0 * 5 := by rw [nCs_len, List.length_take, Nat.min_eq_left hal]
    have hnT : ∀ W', Below W.heap.size W W' → ∀ (j : Nat) (u : Value), (nCs (T.take at0))[j]? = some u → W'.cell? ((⟨gl, 0, none⟩ : Addr).add j) = some u := by
      intro W' hb j u hj
      rw [show (⟨gl, 0, none⟩ : Addr).add j = ⟨gl, j, none⟩ by unfold Addr.add; split <;> simp_all]
      refine hTs W' hb j u ?_
      rw [hspl, List.getElem?_append_left (List.getElem?_eq_some_iff.1 hj).1]
      exact hj
    obtain ⟨A0, hA0⟩ : ∃ A0 : Addr, (if cl = at0 then some (⟨gl, 0, none⟩ : Addr) else some ⟨gl, at0 * 5, none⟩) = some A0 := by split <;> exact ⟨_, rfl⟩
    have hnD : ∀ W', Below W.heap.size W W' → ∀ (j : Nat) (u : Value), (nCs (T.drop at0))[j]? = some u → W'.cell? (A0.add j) = some u := by
      intro W' hb j u hj
      have hjl := (List.getElem?_eq_some_iff.1 hj).1
      rw [nCs_len, List.length_drop] at hjl
      rw [if_neg (by omega)] at hA0
      obtain rfl := Option.some.inj hA0
      rw [show (⟨gl, at0 * 5, none⟩ : Addr).add j = ⟨gl, at0 * 5 + j, none⟩ by unfold Addr.add; split <;> simp_all]
      refine hTs W' hb _ u ?_
      rw [hspl, List.getElem?_append_right (by omega), hlT]
      simpa using hj
    have HA0 := Lib.hid hA0
    have HNT := Lib.hid hnT
    have HND := Lib.hid hnD
    have HLT := Lib.hid hlT
    have hne : X ≠ w.heap.size := by omega
    have hneg : w.heap.size ≠ X := Ne.symm hne
    clear hA0 hnT hnD hTs hspl hlT
    have BA : Below W.heap.size W (W.alloc (.cells #[] 40)).drew := ((Below.refl _ W).alloc (Nat.le_refl _) _).drew
    have BB : Below W.heap.size W ((W.alloc (.cells #[] 40)).alloc (.cells #[.int .i64 f, .int .u32 a, .int .i64 nw, .int .i64 1, .int .i64 (addC 0 bad)] 40)).drew := (((Below.refl _ W).alloc (Nat.le_refl _) _).alloc (by simp) _).drew
    have BC : Below W.heap.size W ((W.alloc (.cells #[.int .i64 f, .int .u32 a, .int .i64 nw, .int .i64 1, .int .i64 (addC 0 bad)] 40)).alloc (.cells #[] 40)).drew := (((Below.refl _ W).alloc (Nat.le_refl _) _).alloc (by simp) _).drew
    have RA0 : (W.alloc (.cells #[] 40)).ownsRow W.heap.size 40 5 (.slice (some ⟨W.heap.size, 0, none⟩) 0 0) 0 [] := World.ownsRow_made W #[] 0 (Nat.le_refl _) (by unfold maxLen; omega) rfl
    have RA : (W.alloc (.cells #[] 40)).drew.ownsRow W.heap.size 40 5 (.slice (some ⟨W.heap.size, 0, none⟩) 0 0) 0 [] := RA0
    have RB : ((W.alloc (.cells #[] 40)).alloc (.cells #[.int .i64 f, .int .u32 a, .int .i64 nw, .int .i64 1, .int .i64 (addC 0 bad)] 40)).drew.ownsRow W.heap.size 40 5 (.slice (some ⟨W.heap.size, 0, none⟩) 0 0) 0 [] := RA0.alloc _
    have RC : ((W.alloc (.cells #[.int .i64 f, .int .u32 a, .int .i64 nw, .int .i64 1, .int .i64 (addC 0 bad)] 40)).alloc (.cells #[] 40)).drew.ownsRow W.heap.size 40 5 (.slice (some ⟨W.heap.size + 1, 0, none⟩) 0 0) 0 [] := by
      have := World.ownsRow_made (base := W.heap.size) (e := 40) (size := 5) (W.alloc (.cells #[.int .i64 f, .int .u32 a, .int .i64 nw, .int .i64 1, .int .i64 (addC 0 bad)] 40)) #[] 0 (by simp) (by unfold maxLen; omega) rfl
      rw [World.size_alloc] at this
      exact this
    clear RA0
    have CB := Lib.hid (show ∀ (j : Nat) (u : Value), (nC ⟨f, a, nw, 1, addC 0 bad⟩)[j]? = some u → ((W.alloc (.cells #[] 40)).alloc (.cells #[.int .i64 f, .int .u32 a, .int .i64 nw, .int .i64 1, .int .i64 (addC 0 bad)] 40)).drew.cell? ((⟨W.heap.size + 1, 0, none⟩ : Addr).add j) = some u by
      have := cells_five_new (W.alloc (.cells #[] 40)) (.int .i64 f) (.int .u32 a) (.int .i64 nw) (.int .i64 1) (.int .i64 (addC 0 bad)) 40
      rw [World.size_alloc] at this
      exact this)
    have CC := Lib.hid (show ∀ (j : Nat) (u : Value), (nC ⟨f, a, nw, 1, addC 0 bad⟩)[j]? = some u → ((W.alloc (.cells #[.int .i64 f, .int .u32 a, .int .i64 nw, .int .i64 1, .int .i64 (addC 0 bad)] 40)).alloc (.cells #[] 40)).drew.cell? ((⟨W.heap.size, 0, none⟩ : Addr).add j) = some u from fun j u hj =>
      cell_below ((below_k _ _).drew) (cells_five_new W (.int .i64 f) (.int .u32 a) (.int .i64 nw) (.int .i64 1) (.int .i64 (addC 0 bad)) 40 j u hj))
    have HIT := Lib.hid (show nCs (T.take at0 ++ [⟨f, a, nw, 1, addC 0 bad⟩]) ++ nCs (T.drop at0) = nCs (insT T ⟨f, a, nw, 1, addC 0 bad⟩) by
      unfold insT
      rw [hat]
      simp [nCs])
    go_region_held3 (fun w' => w'.cell? ⟨X, 0, none⟩ = some (.int .i64 f) ∧ w'.cell? ⟨X, 1, none⟩ = some (.int .u32 a) ∧ w'.cell? ⟨X, 2, none⟩ = some (.int .i64 nw) ∧ w'.cell? ⟨X, 3, none⟩ = some (.int .i64 1) ∧ w'.cell? ⟨X, 4, none⟩ = some (.int .i64 (addC 0 bad)))
      (first | go_keep | exact ⟨cell_below hB x0, cell_below hB x1, cell_below hB x2, cell_below hB x3, cell_below hB x4⟩)
      (first
        | (refine step_append_at _ (by rfl) _ _ _ (by rfl) W.heap.size 40 i0 _ 5 40 Tryd.underlying45 hii hz0 hz1 hz2 rfl (by omega) (.slice (some ⟨W.heap.size, 0, none⟩) 0 0) 0 [] (by rfl) RA (by simp) ⟨gl, 0, none⟩ at0 cl (nCs (T.take at0)) (by rfl) HLT.out (HNT.out _ BA) (nCs_one _) at0 (by omega) (nCs (T.take at0)) (by rfl) (by unfold maxLen; omega) (by omega) BA.size ?_; intro g1 c1 w7 hown1 hgrow1 hg1 hat1; have hB := BA.grown hgrow1 BA.size (fun k e => by simp [Value.ownBlock] at e; omega); have HO1 := Lib.hid hown1; have HG1 := Lib.hid hg1; clear hown1 hgrow1 hat1 hg1)
        | (refine step_append_at _ (by rfl) _ _ _ (by rfl) W.heap.size 40 i0 _ 5 40 Tryd.underlying45 hii hz0 hz1 hz2 rfl (by omega) (.slice (some ⟨W.heap.size, 0, none⟩) 0 0) 0 [] (by rfl) RB (by simp) ⟨gl, 0, none⟩ at0 cl (nCs (T.take at0)) (by rfl) HLT.out (HNT.out _ BB) (nCs_one _) at0 (by omega) (nCs (T.take at0)) (by rfl) (by unfold maxLen; omega) (by omega) BB.size ?_; intro g1 c1 w7 hown1 hgrow1 hg1 hat1; have hB := BB.grown hgrow1 BB.size (fun k e => by simp [Value.ownBlock] at e; omega); have HO1 := Lib.hid hown1; have HG1 := Lib.hid hg1; have HXC := Lib.hid (fun j u hj => hgrow1.cell (CB.out j u hj) (by rw [add_block]; simp [Value.ownBlock])); clear hown1 hgrow1 hat1 hg1)
        | (refine step_append_at _ (by rfl) _ _ _ (by rfl) W.heap.size 40 i0 _ 5 40 Tryd.underlying45 hii hz0 hz1 hz2 rfl (by omega) (.slice (some ⟨W.heap.size + 1, 0, none⟩) 0 0) 0 [] (by rfl) RC (by simp) ⟨gl, 0, none⟩ at0 cl (nCs (T.take at0)) (by rfl) HLT.out (HNT.out _ BC) (nCs_one _) at0 (by omega) (nCs (T.take at0)) (by rfl) (by unfold maxLen; omega) (by omega) BC.size ?_; intro g1 c1 w7 hown1 hgrow1 hg1 hat1; have hB := BC.grown hgrow1 BC.size (fun k e => by simp [Value.ownBlock] at e; omega); have HO1 := Lib.hid hown1; have HG1 := Lib.hid hg1; have HXC := Lib.hid (fun j u hj => hgrow1.cell (CC.out j u hj) (by rw [add_block]; simp [Value.ownBlock])); clear hown1 hgrow1 hat1 hg1)
        | (refine step_append_at (w7.alloc (.cells #[.int .i64 f, .int .u32 a, .int .i64 nw, .int .i64 1, .int .i64 (addC 0 bad)] 40)) (by rfl) _ _ _ (by rfl) W.heap.size 40 i0 _ 5 40 Tryd.underlying45 hii hz0 hz1 hz2 rfl (by omega) (.slice (some ⟨g1, 0, none⟩) at0 c1) at0 (nCs (T.take at0)) (by rfl) (HO1.out.alloc _) (by simp) ⟨w7.heap.size, 0, none⟩ 1 1 (nC ⟨f, a, nw, 1, addC 0 bad⟩) (by rfl) (by rfl) (cells_five_new _ _ _ _ _ _ _) (by simp [nC, Value.oneCell']) (at0 + 1) (by omega) (nCs (T.take at0 ++ [⟨f, a, nw, 1, addC 0 bad⟩])) (nCs_snoc _ _).symm (by unfold maxLen; omega) (by omega) (bthen hB (below_k w7 (.cells #[.int .i64 f, .int .u32 a, .int .i64 nw, .int .i64 1, .int .i64 (addC 0 bad)] 40))).size ?_; intro g2 c2 w8 hown2 hgrow2 hg2 hat2; have hB2 := (bthen hB (below_k w7 (.cells #[.int .i64 f, .int .u32 a, .int .i64 nw, .int .i64 1, .int .i64 (addC 0 bad)] 40))).grown hgrow2 (bthen hB (below_k w7 (.cells #[.int .i64 f, .int .u32 a, .int .i64 nw, .int .i64 1, .int .i64 (addC 0 bad)] 40))).size (fun k e => by simp [Value.ownBlock] at e; have := HG1.out; omega); have hB := hB2; have HO2 := Lib.hid hown2; have HG2 := Lib.hid hg2; clear hown2 hgrow2 hat2 hg2 hB2)
        | (refine step_append_at w7 (by rfl) _ _ _ (by rfl) W.heap.size 40 i0 _ 5 40 Tryd.underlying45 hii hz0 hz1 hz2 rfl (by omega) (.slice (some ⟨g1, 0, none⟩) at0 c1) at0 (nCs (T.take at0)) (by rfl) HO1.out (by simp) ⟨W.heap.size + 1, 0, none⟩ 1 1 (nC ⟨f, a, nw, 1, addC 0 bad⟩) (by rfl) (by rfl) HXC.out (by simp [nC, Value.oneCell']) (at0 + 1) (by omega) (nCs (T.take at0 ++ [⟨f, a, nw, 1, addC 0 bad⟩])) (nCs_snoc _ _).symm (by unfold maxLen; omega) (by omega) hB.size ?_; intro g2 c2 w8 hown2 hgrow2 hg2 hat2; have hB2 := hB.grown hgrow2 hB.size (fun k e => by simp [Value.ownBlock] at e; have := HG1.out; omega); have hB := hB2; have HO2 := Lib.hid hown2; have HG2 := Lib.hid hg2; clear hown2 hgrow2 hat2 hg2 hB2)
        | (refine step_append_at w7 (by rfl) _ _ _ (by rfl) W.heap.size 40 i0 _ 5 40 Tryd.underlying45 hii hz0 hz1 hz2 rfl (by omega) (.slice (some ⟨g1, 0, none⟩) at0 c1) at0 (nCs (T.take at0)) (by rfl) HO1.out (by simp) ⟨W.heap.size, 0, none⟩ 1 1 (nC ⟨f, a, nw, 1, addC 0 bad⟩) (by rfl) (by rfl) HXC.out (by simp [nC, Value.oneCell']) (at0 + 1) (by omega) (nCs (T.take at0 ++ [⟨f, a, nw, 1, addC 0 bad⟩])) (nCs_snoc _ _).symm (by unfold maxLen; omega) (by omega) hB.size ?_; intro g2 c2 w8 hown2 hgrow2 hg2 hat2; have hB2 := hB.grown hgrow2 hB.size (fun k e => by simp [Value.ownBlock] at e; have := HG1.out; omega); have hB := hB2; have HO2 := Lib.hid hown2; have HG2 := Lib.hid hg2; clear hown2 hgrow2 hat2 hg2 hB2)
        | (refine step_append_at w8 (by rfl) _ _ _ (by rfl) W.heap.size 40 i0 _ 5 40 Tryd.underlying45 hii hz0 hz1 hz2 rfl (by omega) (.slice (some ⟨g2, 0, none⟩) (at0 + 1) c2) (at0 + 1) (nCs (T.take at0 ++ [⟨f, a, nw, 1, addC 0 bad⟩])) (by rfl) HO2.out (by simp) A0 (T.length - at0) (cl - at0) (nCs (T.drop at0)) (by refine Eq.trans (by rfl) (congrArg (fun b => Value.slice b (T.length - at0) (cl - at0)) HA0.out)) (by rw [nCs_len, List.length_drop]) (HND.out _ hB) (nCs_one _) (T.length + 1) (by omega) (nCs (insT T ⟨f, a, nw, 1, addC 0 bad⟩)) HIT.out (by unfold maxLen; omega) (by omega) hB.size ?_; intro g3 c3 w9 hown3 hgrow3 hg3 hat3; have hB3 := hB.grown hgrow3 hB.size (fun k e => by simp [Value.ownBlock] at e; have := HG2.out; omega); have hB := hB3; have HO3 := Lib.hid hown3; have HG3 := Lib.hid hg3; have hx9 := HXX.out.below hB; have d0 := hx9.d0; have f0 := hx9.f0; have x0 := cell_below hB x0; have x1 := cell_below hB x1; have x2 := cell_below hB x2; have x3 := cell_below hB x3; have x4 := cell_below hB x4; have HX9 := Lib.hid hx9; clear hown3 hgrow3 hat3 hg3 hB3 hx9))
    all_goals
      clear x0 x1 x2 x3 x4 d0 f0 BA BB BC RA RB RC
      have hx7 : HBx w (w9.setCell ⟨w.heap.size, 0, none⟩ (.slice (some ⟨g3, 0, none⟩) (T.length + 1) c3)) (.slice (some ⟨g3, 0, none⟩) (T.length + 1) c3) (.int .i64 nw) (.int .i64 lost) := HX9.out.set 0 _
      have hil : (insT T ⟨f, a, nw, 1, addC 0 bad⟩).length = T.length + 1 := by rw [(insT_perm _ _).length_eq]; rfl
      have hox := HO3.out
      rw [← hil] at hox
      obtain ⟨b', g', c', he, hsl9, _⟩ := sl_of_row hox (by have := hB.size; omega)
      have hg' : b' = some ⟨g3, 0, none⟩ ∧ c' = c3 := by simp at he; exact ⟨he.1.symm, he.2.symm⟩
      obtain ⟨rfl, rfl⟩ := hg'
      have hgg : g' = g3 := by
        obtain ⟨q, hq⟩ := List.exists_mem_of_ne_nil (insT T ⟨f, a, nw, 1, addC 0 bad⟩) (fun e => by rw [e] at hil; simp at hil)
        obtain ⟨j, hj, _⟩ := List.mem_iff_getElem.1 hq
        obtain ⟨e, _⟩ := hsl9.row j _ (List.getElem?_eq_getElem hj)
        simpa using e.symm
      subst hgg
      have ne0 : g' ≠ w.heap.size := by have := HG3.out; omega
      have ne1 : g' ≠ w.heap.size + 1 := by have := HG3.out; omega
      have hs7 := hsl9.of_block (Below.heap_setCell w9 ⟨w.heap.size, 0, none⟩ (.slice (some ⟨g', 0, none⟩) (T.length + 1) c') g' ne0)
      have HS7 := Lib.hid hs7
      have HX7 := Lib.hid hx7
      have HIL := Lib.hid hil
      clear hx7 hs7 hsl9 hox he hil
      generalize w9.setCell ⟨w.heap.size, 0, none⟩ (.slice (some ⟨g', 0, none⟩) (T.length + 1) c') = w7' at *
      have d0 := HX7.out.d0
      have d1 := HX7.out.d1
      have d2 := HX7.out.d2
      have e0 := HX7.out.e0
      have e1 := HX7.out.e1
      have e2 := HX7.out.e2
      have f0 := HX7.out.f0
      have f1 := HX7.out.f1
      go_wp2_with fail
      all_goals
        obtain ⟨c0, c1', c2'⟩ := cells3_of (HX7.out.out (.slice (some ⟨g', 0, none⟩) (T.length + 1) c') (.int .i64 nw) (.int .i64 lost))
        exact bodyPost_ret (v := .tuple #[RN (some ⟨g', 0, none⟩) (T.length + 1) c' nw lost, .int .i64 0]) (by simp [results, Tryd.results34, go_sem, c0, c1', c2']) rfl ⟨⟨_, rfl, some ⟨g', 0, none⟩, g', c', by rw [HIL.out], HS7.out.of_block (HX7.out.outO _ _ _ ne1)⟩, HX7.out.outB _ _ _⟩
end Go.Proofs.YtahkhecfnimdbaaDoor
