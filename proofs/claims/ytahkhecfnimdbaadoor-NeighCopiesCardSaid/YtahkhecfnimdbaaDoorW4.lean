/- The law's act: one contract. -/
import Derived.Test.YtahkhecfnimdbaaDoorW3
namespace Go.Proofs.YtahkhecfnimdbaaDoor
open Go.RowKit Go.Maps

set_option maxHeartbeats 4000000 in
set_option maxRecDepth 100000 in
theorem act_else (p m : Nat) (s : St) (base : Option Addr) (cap : Nat) (wt fc bd ad mr : Int) (w : World) (h : NW w p m s) (hR : RW w base s) (hw : ¬ (0 ≤ wt ∧ wt ≤ 7)) :
    Calls Tryd.prog 16 #[.pointer (some ⟨p, 0, none⟩), RN base s.T.length cap s.now s.lost, actV wt fc bd ad mr] w (fun e w' => ActPost w w' p m s e) := by
  have B0 : Below w.heap.size w (((w.alloc (.cells #[.slice base s.T.length cap, .int .i64 s.now, .int .i64 s.lost] 47)).alloc (.cells #[.int .i64 wt, .int .i64 fc, .int .i64 bd, .int .u32 ad, .int .i64 mr] 33)).alloc rnNil) := (((Below.refl _ _).alloc (Nat.le_refl _) _).alloc (by simp) _).alloc (by simp; omega) _
  have ab := AB.start w (.slice base s.T.length cap) (.int .i64 s.now) (.int .i64 s.lost) wt fc bd ad mr
  have H := Lib.hid h
  have HB0 := Lib.hid B0
  have HAB := Lib.hid ab
  have HR := Lib.hid hR
  have v0 : (wt == 0) = false := by simp; omega
  have v1 : (wt == 1) = false := by simp; omega
  have v2 : (wt == 2) = false := by simp; omega
  have v3 : (wt == 3) = false := by simp; omega
  have v4 : (wt == 4) = false := by simp; omega
  have v5 : (wt == 5) = false := by simp; omega
  have v6 : (wt == 6) = false := by simp; omega
  have v7 : (wt == 7) = false := by simp; omega
  clear h hR ab B0 hw
  go_enter Tryd.func16, Tryd.ntmps16
  go_upto_region 1 with fail
  generalize (((w.alloc (.cells #[.slice base s.T.length cap, .int .i64 s.now, .int .i64 s.lost] 47)).alloc (.cells #[.int .i64 wt, .int .i64 fc, .int .i64 bd, .int .u32 ad, .int .i64 mr] 33)).alloc rnNil) = wc at *
  have q0 := HAB.out.a0
  go_upto_region 19 with fail
  have d0 := HAB.out.d0
  have d1 := HAB.out.d1
  have d2 := HAB.out.d2
  have hsz := HAB.out.sz
  have hc := Copy_any p m s wc.drew ((H.out.below HB0.out).below ((Below.refl _ _).drew))
  have HC := Lib.hid hc
  have x3 : w.heap.size ≠ w.heap.size + 1 + 1 := by omega
  have x4 : w.heap.size + 1 + 1 ≠ w.heap.size := by omega
  clear hc q0
  go_region_held3 (fun w' => w'.cell? ⟨w.heap.size, 0, none⟩ = some (.slice base s.T.length cap) ∧ w'.cell? ⟨w.heap.size, 1, none⟩ = some (.int .i64 s.now) ∧ w'.cell? ⟨w.heap.size, 2, none⟩ = some (.int .i64 s.lost))
    (go_keep)
    ((with_reducible refine HC.out.mono ?_; rintro e w4 ⟨⟨p', m', rfl, hn, hp', hm'⟩, hb⟩; have hb4 := bthen (((Below.refl _ wc).drew)) hb; have ab4 := HAB.out.below hb4; have d0 := ab4.d0; have d1 := ab4.d1; have d2 := ab4.d2; have e0 := ab4.e0; have e1 := ab4.e1; have e2 := ab4.e2; have f2 := ab4.f2; have HB4 := Lib.hid hb4; have HN4 := Lib.hid hn; have HAB4 := Lib.hid ab4; have HP := Lib.hid (And.intro hp' hm'); clear hn hb hb4 ab4 hp' hm'))
  obtain ⟨c0, c1, c2⟩ := cells3_of (box3_out HAB4.out.b2 (.slice base s.T.length cap) (.int .i64 s.now) (.int .i64 s.lost))
  have hfin : ActPost w (((w4.setCell ⟨w.heap.size + 1 + 1, 0, none⟩ (.slice base s.T.length cap)).setCell ⟨w.heap.size + 1 + 1, 1, none⟩ (.int .i64 s.now)).setCell ⟨w.heap.size + 1 + 1, 2, none⟩ (.int .i64 s.lost)) p m s (.returned (.tuple #[.pointer (some ⟨p', 0, none⟩), RN base s.T.length cap s.now s.lost, .bool true])) := by
    have hp2 : wc.heap.size ≤ p' := HP.out.1
    have hm2 : wc.heap.size ≤ m' := HP.out.2
    refine ⟨p', m', base, cap, rfl, ?_, ?_, .inr ⟨by omega, by omega⟩, kp_set3 (Kp.of_below (bthen HB0.out HB4.out)) (by omega) _ _ _⟩
    · exact HN4.out.of_blocks (box3_other _ _ _ _ _ (by omega)) (box3_other _ _ _ _ _ (by omega)) (box3_other _ _ _ _ _ (by omega))
    · obtain ⟨g, hS⟩ := HR.out
      exact ⟨g, ((hS.below HB0.out).below HB4.out).other HAB4.out.b2 (by rw [set3_size]; exact Nat.le_refl _) (fun j hj => box3_other _ _ _ _ _ hj)⟩
  clear d0 d1 d2 e0 e1 e2 f2
  have HFin := Lib.hid hfin
  clear hfin
  generalize (((w4.setCell ⟨w.heap.size + 1 + 1, 0, none⟩ (.slice base s.T.length cap)).setCell ⟨w.heap.size + 1 + 1, 1, none⟩ (.int .i64 s.now)).setCell ⟨w.heap.size + 1 + 1, 2, none⟩ (.int .i64 s.lost)) = WF at *
  go_wp2_with fail
  exact bodyPost_ret (v := .tuple #[.pointer (some ⟨p', 0, none⟩), RN base s.T.length cap s.now s.lost, .bool true]) (by simp [results, Tryd.results16, go_sem, c0, c1, c2]) rfl HFin.out

theorem act_any (p m : Nat) (s : St) (base : Option Addr) (cap : Nat) (wt fc bd ad mr : Int) (w : World) (h : NW w p m s) (hO : OrdT s.T) (hR : RW w base s)
    (a0 : 0 ≤ ad) (a1 : ad < 4294967296) (b1 : bd ≤ 9223372036854775807) :
    Calls Tryd.prog 16 #[.pointer (some ⟨p, 0, none⟩), RN base s.T.length cap s.now s.lost, actV wt fc bd ad mr] w (fun e w' => ActPost w w' p m (actS s wt fc bd ad mr) e ∧ OrdT (actS s wt fc bd ad mr).T) := by
  unfold actS
  by_cases h1 : 0 ≤ wt ∧ wt ≤ 5
  · rw [if_pos h1]
    exact (act_hear p m s base cap wt fc bd ad mr w h hO hR a0 a1 b1 h1).mono fun _ _ hp => ⟨hp, (hearO_eq hO _ _ _ _).2.2.2.2⟩
  · rw [if_neg h1]
    by_cases h2 : wt = 6
    · subst h2
      rw [if_pos rfl]
      exact (act_forget p m s base cap fc bd ad mr w h hR).mono fun _ _ hp => ⟨hp, hO.filter _⟩
    · rw [if_neg h2]
      by_cases h3 : wt = 7
      · subst h3
        rw [if_pos rfl]
        exact (act_since p m s base cap fc bd ad mr w h hR).mono fun _ _ hp => ⟨hp, hO.filter _⟩
      · rw [if_neg h3]
        exact (act_else p m s base cap wt fc bd ad mr w h hR (by omega)).mono fun _ _ hp => ⟨hp, hO⟩
end Go.Proofs.YtahkhecfnimdbaaDoor
