/- Contract: sorted, All. -/
import Derived.Test.YtahkhecfnimdbaaDoorS4
import Derived.Laws.MakeOwn
import Derived.OwnWalk
import Derived.Deep.LoopGhost
import Derived.Deep.RegionHeld3
import Derived.Deep.AppendLies
import Derived.BigRegion
namespace Go.Proofs.YtahkhecfnimdbaaDoor
open Go.RowKit Go.Shelf Go.Maps

def nC (r : Rec) : List Value := [.int .i64 r.face, .int .u32 r.addr, .int .i64 r.last, .int .i64 r.good, .int .i64 r.bad]
def nCs (L : List Rec) : List Value := L.flatMap nC
theorem nCs_snoc (xs : List Rec) (x : Rec) : nCs (xs ++ [x]) = nCs xs ++ nC x := by simp [nCs]
theorem info40 : (Tryd.prog.info? 40).map (fun i => (i.zero, i.size, i.bytes)) = some (some (.agg #[.int .i64 0, .int .u32 0, .int .i64 0, .int .i64 0, .int .i64 0]), 5, 40) := by kernel_rfl
theorem cells_five_new (w : World) (a b c d e : Value) (t : TypeId) : ∀ j u, [a, b, c, d, e][j]? = some u → (w.alloc (.cells #[a, b, c, d, e] t)).cell? ((⟨w.heap.size, 0, none⟩ : Addr).add j) = some u := by
  intro j u hj
  match j, hj with
  | 0, hj => simp at hj; subst hj; simp [Addr.add, go_sem]
  | 1, hj => simp at hj; subst hj; simp [Addr.add, go_sem]
  | 2, hj => simp at hj; subst hj; simp [Addr.add, go_sem]
  | 3, hj => simp at hj; subst hj; simp [Addr.add, go_sem]
  | 4, hj => simp at hj; subst hj; simp [Addr.add, go_sem]
  | j + 5, hj => simp at hj
theorem nCs_at {xs : List Rec} {i : Nat} {x : Rec} (h : xs[i]? = some x) : (nCs xs)[i * 5]? = some (.int .i64 x.face) ∧ (nCs xs)[i * 5 + 1]? = some (.int .u32 x.addr) ∧ (nCs xs)[i * 5 + 2]? = some (.int .i64 x.last) ∧ (nCs xs)[i * 5 + 3]? = some (.int .i64 x.good) ∧ (nCs xs)[i * 5 + 4]? = some (.int .i64 x.bad) := by
  induction xs generalizing i with
  | nil => simp at h
  | cons q L ih =>
    have e : nCs (q :: L) = .int .i64 q.face :: .int .u32 q.addr :: .int .i64 q.last :: .int .i64 q.good :: .int .i64 q.bad :: nCs L := by simp [nCs, nC]
    cases i with
    | zero => simp at h; subst h; rw [e]; exact ⟨rfl, rfl, rfl, rfl, rfl⟩
    | succ i =>
      simp at h
      obtain ⟨h1, h2, h3, h4, h5⟩ := ih h
      rw [e, show (i + 1) * 5 = i * 5 + 1 + 1 + 1 + 1 + 1 by omega, show i * 5 + 1 + 1 + 1 + 1 + 1 + 1 = (i * 5 + 1) + 1 + 1 + 1 + 1 + 1 by omega, show i * 5 + 1 + 1 + 1 + 1 + 1 + 2 = (i * 5 + 2) + 1 + 1 + 1 + 1 + 1 by omega, show i * 5 + 1 + 1 + 1 + 1 + 1 + 3 = (i * 5 + 3) + 1 + 1 + 1 + 1 + 1 by omega, show i * 5 + 1 + 1 + 1 + 1 + 1 + 4 = (i * 5 + 4) + 1 + 1 + 1 + 1 + 1 by omega]
      simp only [List.getElem?_cons_succ]
      exact ⟨h1, h2, h3, h4, h5⟩
/-- an owned row of neighbours, as a list behind a slice's address -/
theorem sl_of_row {W : World} {B : Nat} {v : Value} {L : List Rec} (h : W.ownsRow B 40 5 v L.length (nCs L)) (h0 : 0 < W.heap.size) :
    ∃ (base : Option Addr) (g cap : Nat), v = .slice base L.length cap ∧ SL W base g L ∧ (base = none ∨ B ≤ g) := by
  rcases h.2 with ⟨rfl, hl⟩ | ⟨g, cap, cur, rfl, hb, hc, h1, h2, h3, h4⟩
  · have : L = [] := List.eq_nil_of_length_eq_zero hl
    subst this
    exact ⟨none, 0, 0, rfl, SL.none h0, .inl rfl⟩
  · refine ⟨some ⟨g, 0, none⟩, g, cap, rfl, ⟨(Array.getElem?_eq_some_iff.1 hc).1, fun e => (by cases e), fun i r hr => ⟨rfl, ?_⟩⟩, .inr hb⟩
    have hcell : ∀ o, W.cell? ⟨g, o, none⟩ = cur[o]? := fun o => by simp [World.cell?, hc]
    obtain ⟨k1, k2, k3, k4, k5⟩ := nCs_at hr
    rw [hcell, hcell, hcell, hcell, hcell]
    exact ⟨cells_atT h4 k1, cells_atT h4 k2, cells_atT h4 k3, cells_atT h4 k4, cells_atT h4 k5⟩

/-- between two rounds of sorted -/
def sRel (w : World) (p m : Nat) (T : List Rec) (now lost : Int) (base : Option Addr) (g : Nat) (n : Nat) (v3 v21 : Value) (wr : World) : Prop :=
  ∃ i : Nat, n = T.length - i ∧ i ≤ T.length ∧ v21 = .int .i64 i ∧ wr.ownsRow w.heap.size 40 5 v3 i (nCs (T.take i)) ∧ NS wr p m T now lost ∧ KL wr base g (T.map keyP) ∧ (T ≠ [] → v3.ownBlock ≠ some g) ∧ Below w.heap.size w wr

theorem NS.keptG {W W' : World} {p m : Nat} {T : List Rec} {now lost : Int} {row : Option Nat} (h : NS W p m T now lost) (hg : W.grownBy W' row) (hp : some p ≠ row) (hm : some m ≠ row) : NS W' p m T now lost := by
  obtain ⟨D, ho, ht⟩ := h.map
  exact ⟨(hg.block p h.plt hp).trans h.box, ⟨D, ho.kept hg hm, ht⟩, h.wf⟩
theorem own_block {W : World} {base n size : Nat} {e : TypeId} {v : Value} {xs : List Value} (h : W.ownsRow base e size v n xs) {k : Nat} (hk : v.ownBlock = some k) : base ≤ k ∧ k < W.heap.size := by
  rcases h.2 with ⟨rfl, _⟩ | ⟨g, cap, cur, rfl, hb, hc, _⟩
  · simp [Value.ownBlock] at hk
  · simp [Value.ownBlock] at hk
    subst hk
    exact ⟨hb, (Array.getElem?_eq_some_iff.1 hc).1⟩
theorem getR_of {T : List Rec} (hA : Apart T) {r : Rec} (hr : r ∈ T) : getR T r.face r.addr = r := by
  have hh : hasR T r.face r.addr = true := hasR_iff.2 ⟨r, hr, rfl, rfl⟩
  obtain ⟨h1, h2, h3⟩ := getR_mem hh
  exact hA.one h1 hr h2 h3

set_option maxHeartbeats 4000000 in
set_option maxRecDepth 100000 in
theorem sorted_any (p m : Nat) (T : List Rec) (now lost : Int) (w : World) (h : NS w p m T now lost) (hO : OrdT T) (hlen : T.length < 1000) :
    Calls Tryd.prog 37 #[.pointer (some ⟨p, 0, none⟩)] w fun e w' => ∃ v, e = .returned v ∧ w'.ownsRow w.heap.size 40 5 v T.length (nCs T) ∧ Below w.heap.size w w' := by
  have c0 := h.c0
  have hlenr := h.len
  obtain ⟨i0, hi, hz0, hz1, hz2⟩ := info_parts info40
  obtain ⟨w1, hmk, hrow0, hg0⟩ := run_make_own (P := Tryd.prog) w w.heap.size 45 40 i0 (.agg #[.int .i64 0, .int .u32 0, .int .i64 0, .int .i64 0, .int .i64 0]) 5 Tryd.underlying45 hi hz0 hz1 .i64 .i64 T.length (by rw [hz2]; omega) (by unfold maxLen; omega) (Nat.le_refl _)
  have hb1 : Below w.heap.size w w1 := ⟨hg0.os, hg0.tape, hg0.output, hg0.size, fun k hk => hg0.block k hk (fun e => by cases e)⟩
  have n1 := h.below hb1
  have d0 := n1.c0
  have B2 : Below w1.heap.size w1 (w1.alloc (.cells #[.map (some m)] 62)) := below_k _ _
  obtain ⟨D, ho, ht⟩ := (n1.below B2).map
  have HSo := Lib.hid (SortedFunc_any w1.heap.size m T.length T D ht h.wf h.apart hO hlen (w1.alloc (.cells #[.map (some m)] 62)) (by simp [go_sem]) ho)
  have HB1 := Lib.hid hb1
  have HR0 := Lib.hid hrow0
  have N1 := Lib.hid n1
  have H := Lib.hid h
  clear h hb1 hrow0 n1 hg0 B2 ho ht
  go_enter Tryd.func37, Tryd.ntmps37
  go_wp2_with (first
    | (go_at_call 26; with_reducible refine (none_t _ _ _ _ _ _ H.out).mono ?_; rintro e w' ⟨rfl, rfl⟩)
    | (go_at_call 48; with_reducible refine (Keys_any _ _).mono ?_; rintro e w' ⟨rfl, rfl⟩)
    | (go_at_call 47; with_reducible refine HSo.out.mono ?_; rintro e w2 ⟨base, g, cap, rfl, hkl, hgl, hb2⟩; have HKL := Lib.hid hkl; have HGL := Lib.hid hgl; have HB2 := Lib.hid (bthen (below_k w1 (.cells #[.map (some m)] 62)) hb2); clear hkl hgl hb2)
    | fail)
  have hw1 : w.heap.size ≤ w1.heap.size := HB1.out.size
  clear hlenr hmk c0 d0
  go_loopg [3, 21] T.length (sRel w p m T now lost base g)
  case atStart =>
    have hr : w2.ownsRow w.heap.size 40 5 (.slice (some ⟨w.heap.size, 0, none⟩) 0 T.length) 0 [] := HR0.out.kept (row := none) (grown_below HB2.out) (.inr (by simp [Value.ownBlock]))
    exact ⟨0, rfl, by omega, rfl, hr, N1.out.below HB2.out, HKL.out, fun h e => by have := HGL.out h; simp [Value.ownBlock] at e this; omega, bthen HB1.out HB2.out⟩
  case round =>
    obtain ⟨i, hn, hil, rfl, hrow, hns, hkl, hog, hbl⟩ := hrel
    have Hn := Lib.hid hn
    clear hn
    by_cases hlt : i < T.length
    · obtain ⟨r, hr⟩ : ∃ r, T[i]? = some r := ⟨_, List.getElem?_eq_getElem hlt⟩
      have hmem : r ∈ T := List.mem_of_getElem? hr
      have hx : (T.map keyP)[i]? = some (keyP r) := by simp [hr]
      obtain ⟨rfl, z0, z1⟩ := hkl.row i _ hx
      have hKB := (hns.wf r hmem).key
      have hlk := (hns.below (((Below.refl _ wr).alloc (Nat.le_refl _) (kObj r.face r.addr)).drew)).look1 r.face r.addr hKB
      rw [getR_of hns.apart hmem] at hlk
      simp only [recV, keyV] at hlk
      simp only [keyP] at z0 z1
      have hgl := hkl.lt
      have hpl := hns.plt
      have hp0 := hns.c0
      have htk : T.take (i + 1) = T.take i ++ [r] := by
        rw [List.take_succ_eq_append_getElem hlt]
        rw [List.getElem?_eq_getElem hlt] at hr
        rw [Option.some.inj hr]
      obtain ⟨rf, ra, rl, rg, rb⟩ := r
      have hrowX : ((((wr.alloc (kObj rf ra)).alloc (.cells #[.int .i64 rf, .int .u32 ra, .int .i64 rl, .int .i64 rg, .int .i64 rb] 71)).alloc (.cells #[.int .i64 rf, .int .u32 ra, .int .i64 rl, .int .i64 rg, .int .i64 rb] 40)).alloc (.cells #[.int .i64 rf, .int .u32 ra, .int .i64 rl, .int .i64 rg, .int .i64 rb] 40)).drew.ownsRow w.heap.size 40 5 u3 i (nCs (T.take i)) := (((hrow.alloc (kObj rf ra)).alloc (.cells #[.int .i64 rf, .int .u32 ra, .int .i64 rl, .int .i64 rg, .int .i64 rb] 71)).alloc (.cells #[.int .i64 rf, .int .u32 ra, .int .i64 rl, .int .i64 rg, .int .i64 rb] 40)).alloc (.cells #[.int .i64 rf, .int .u32 ra, .int .i64 rl, .int .i64 rg, .int .i64 rb] 40)
      have hcX := cells_five_new (((wr.alloc (kObj rf ra)).alloc (.cells #[.int .i64 rf, .int .u32 ra, .int .i64 rl, .int .i64 rg, .int .i64 rb] 71)).alloc (.cells #[.int .i64 rf, .int .u32 ra, .int .i64 rl, .int .i64 rg, .int .i64 rb] 40)) (.int .i64 rf) (.int .u32 ra) (.int .i64 rl) (.int .i64 rg) (.int .i64 rb) 40
      simp only [World.size_alloc] at hcX
      have hwb := hbl.size
      have hpw := H.out.plt
      have s1 : p < wr.heap.size + 1 := by omega
      have s2 : p < wr.heap.size + 1 + 1 := by omega
      have s3 : p < wr.heap.size + 1 + 1 + 1 := by omega
      have s4 : wr.heap.size < wr.heap.size + 1 := by omega
      have s5 : wr.heap.size < wr.heap.size + 1 + 1 := by omega
      have s6 : wr.heap.size < wr.heap.size + 1 + 1 + 1 := by omega
      have hp1 : (wr.alloc (kObj rf ra)).drew.cell? ⟨p, 0, none⟩ = some (.map (some m)) := cell_below (((Below.refl _ wr).alloc (Nat.le_refl _) _).drew) hp0
      have hp2 : (((wr.alloc (kObj rf ra)).alloc (.cells #[.int .i64 rf, .int .u32 ra, .int .i64 rl, .int .i64 rg, .int .i64 rb] 71)).alloc (.cells #[.int .i64 rf, .int .u32 ra, .int .i64 rl, .int .i64 rg, .int .i64 rb] 40)).drew.cell? ⟨p, 0, none⟩ = some (.map (some m)) := cell_below (((((Below.refl _ wr).alloc (Nat.le_refl _) _).alloc (by simp) _).alloc (by simp; omega) _).drew) hp0
      have hp3 : ((((wr.alloc (kObj rf ra)).alloc (.cells #[.int .i64 rf, .int .u32 ra, .int .i64 rl, .int .i64 rg, .int .i64 rb] 71)).alloc (.cells #[.int .i64 rf, .int .u32 ra, .int .i64 rl, .int .i64 rg, .int .i64 rb] 40)).alloc (.cells #[.int .i64 rf, .int .u32 ra, .int .i64 rl, .int .i64 rg, .int .i64 rb] 40)).drew.cell? ⟨p, 0, none⟩ = some (.map (some m)) := cell_below ((((((Below.refl _ wr).alloc (Nat.le_refl _) _).alloc (by simp) _).alloc (by simp; omega) _).alloc (by simp; omega) _).drew) hp0
      have hq3 : ((((wr.alloc (kObj rf ra)).alloc (.cells #[.int .i64 rf, .int .u32 ra, .int .i64 rl, .int .i64 rg, .int .i64 rb] 71)).alloc (.cells #[.int .i64 rf, .int .u32 ra, .int .i64 rl, .int .i64 rg, .int .i64 rb] 40)).alloc (.cells #[.int .i64 rf, .int .u32 ra, .int .i64 rl, .int .i64 rg, .int .i64 rb] 40)).drew.cell? ⟨wr.heap.size, 0, none⟩ = some (.int .i64 rf) := by simp [go_sem]
      have hq4 : ((((wr.alloc (kObj rf ra)).alloc (.cells #[.int .i64 rf, .int .u32 ra, .int .i64 rl, .int .i64 rg, .int .i64 rb] 71)).alloc (.cells #[.int .i64 rf, .int .u32 ra, .int .i64 rl, .int .i64 rg, .int .i64 rb] 40)).alloc (.cells #[.int .i64 rf, .int .u32 ra, .int .i64 rl, .int .i64 rg, .int .i64 rb] 40)).drew.cell? ⟨wr.heap.size, 1, none⟩ = some (.int .u32 ra) := by simp [go_sem]
      have hob : ∀ k, u3.ownBlock = some k → w.heap.size ≤ k ∧ k < wr.heap.size := fun k hk => own_block hrow hk
      have ng := neigh_any rf ra rl rg rb (wr.alloc (kObj rf ra)).drew
      have HX := Lib.hid hrow
      have HRX := Lib.hid hrowX
      have HCX := Lib.hid hcX
      have HOB := Lib.hid hob
      have HOG := Lib.hid hog
      have HTne := Lib.hid (show T ≠ [] from fun e => by rw [e] at hlt; simp at hlt)
      have HN := Lib.hid hns
      have HK := Lib.hid hkl
      have HBl := Lib.hid hbl
      have HTk := Lib.hid htk
      clear hrow hrowX hcX hob hog hns hkl hbl htk hmem hx hr hKB
      go_wp2_with fail
      go_region_held3 (fun w' => w'.cell? ⟨p, 0, none⟩ = some (.map (some m)) ∧ w'.cell? ⟨wr.heap.size, 0, none⟩ = some (.int .i64 rf) ∧ w'.cell? ⟨wr.heap.size, 1, none⟩ = some (.int .u32 ra))
        (first
          | go_keep
          | (refine ⟨hgrow.cell hp3 (fun e => by have := HOB.out _ e.symm; simp at this; omega), hgrow.cell hq3 (fun e => by have := HOB.out _ e.symm; simp at this), hgrow.cell hq4 (fun e => by have := HOB.out _ e.symm; simp at this)⟩))
        (first
          | (with_reducible refine ng.mono ?_; rintro e w' ⟨rfl, rfl⟩)
          | (refine step_append_lies _ (by rfl) _ _ _ (by rfl) w.heap.size 40 i0 _ 5 40 Tryd.underlying45 hi hz0 hz1 hz2 rfl (by omega) u3 i (nCs (T.take i)) (by rfl) HRX.out ⟨wr.heap.size + 1 + 1 + 1, 0, none⟩ 1 1 (nC ⟨rf, ra, rl, rg, rb⟩) (by rfl) (by rfl) HCX.out (by simp [nC, Value.oneCell']) (by omega) (by unfold maxLen; omega) (by omega) (by simp; omega) (wr.heap.size + 1 + 1 + 1 + 1) (by simp) ?_; intro gg cap1 w3 hown1 hgrow hat hlt3))
      go_wp2_with fail
      have hBX : Below wr.heap.size wr ((((wr.alloc (kObj rf ra)).alloc (.cells #[.int .i64 rf, .int .u32 ra, .int .i64 rl, .int .i64 rg, .int .i64 rb] 71)).alloc (.cells #[.int .i64 rf, .int .u32 ra, .int .i64 rl, .int .i64 rg, .int .i64 rb] 40)).alloc (.cells #[.int .i64 rf, .int .u32 ra, .int .i64 rl, .int .i64 rg, .int .i64 rb] 40)).drew := (((((Below.refl _ wr).alloc (Nat.le_refl _) _).alloc (by simp) _).alloc (by simp; omega) _).alloc (by simp; omega) _).drew
      have hml := H.out.mlt
      go_roundg (T.length - (i + 1))
      case measure => have := Hn.out; omega
      case rel =>
        refine ⟨i + 1, rfl, by omega, by go_num, by rw [HTk.out, nCs_snoc]; exact hown1, ?_, ?_, ?_, ?_⟩
        · exact (HN.out.below hBX).keptG hgrow (fun e => by have := HOB.out _ e.symm; omega) (fun e => by have := HOB.out _ e.symm; omega)
        · exact (HK.out.below hBX).of_block (hgrow.block g (Nat.lt_of_lt_of_le hgl hBX.size) (fun e => HOG.out HTne.out e.symm))
        · intro hne e
          have hgw := HOG.out hne
          simp [Value.ownBlock] at e
          rcases hat with h | h
          · exact hgw (by rw [h, e])
          · omega
        · exact (bthen HBl.out hBX).grown hgrow (Nat.le_trans HBl.out.size hBX.size) (fun k e => (HOB.out k e).1)
    · obtain rfl : i = T.length := by omega
      rw [List.take_length] at hrow
      have HX := Lib.hid hrow
      have HBl := Lib.hid hbl
      clear hrow hns hkl hbl hog
      go_wp2_with fail
      go_ret
      exact ⟨_, rfl, HX.out, HBl.out⟩

set_option maxHeartbeats 400000 in
theorem All_any (p m : Nat) (T : List Rec) (now lost : Int) (w : World) (h : NS w p m T now lost) (hO : OrdT T) (hlen : T.length < 1000) :
    Calls Tryd.prog 17 #[.pointer (some ⟨p, 0, none⟩)] w fun e w' => ∃ (b : Nat) (base : Option Addr) (g cap : Nat), e = .returned (.func (.func 38) #[] #[.pointer (some ⟨b, 0, none⟩)]) ∧ w'.heap[b]? = some (.cells #[.slice base T.length cap] 45) ∧ SL w' base g T ∧ Below w.heap.size w w' := by
  have hs := Lib.hid (sorted_any p m T now lost w h hO hlen)
  have hp := h.plt
  clear h
  go_enter Tryd.func17, Tryd.ntmps17
  go_wp2_with (go_at_call 37; refine hs.out.mono ?_; rintro e w1 ⟨v, rfl, hrow, hb⟩; have HB := Lib.hid hb; obtain ⟨base, g, cap, rfl, hSL, _⟩ := sl_of_row hrow (by have := hb.size; omega); have HS := Lib.hid hSL; clear hb hrow hSL)
  go_ret
  exact ⟨w1.heap.size, base, g, cap, rfl, World.alloc_heap_new w1 _, HS.out.below (below_k _ _), bthen HB.out (below_k _ _)⟩
end Go.Proofs.YtahkhecfnimdbaaDoor
