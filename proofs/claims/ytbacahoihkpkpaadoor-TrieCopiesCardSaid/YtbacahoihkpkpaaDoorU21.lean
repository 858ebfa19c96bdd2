/- The law's is. -/
import Derived.Test.YtbacahoihkpkpaaDoorU20
import Derived.Test.YtbacahoihkpkpaaDoorT35
namespace Go.Proofs.YtbacahoihkpkpaaDoor
open Go.RowKit Go.Shelf Go.Maps

theorem ahd_zero (L : List (Key × Int)) : ahd 0 0 L = 0 := by
  unfold ahd
  rw [List.length_eq_zero_iff]
  cases L with
  | nil => rfl
  | cons x L =>
    have : ahB 0 0 x = false := by
      unfold ahB
      have h := ka_0 x.1
      rw [decide_eq_false_iff_not]
      unfold ordI orI cmpI
      repeat' split
      all_goals omega
    simp [this]

set_option maxRecDepth 100000 in
set_option maxHeartbeats 8000000 in
theorem is_any (q g : Nat) (t : TT) (v : Value) (w : World) (h : TrS w q t) (hS : RT w g v t.rows) (hl : t.rows.length ≤ 200) :
    Calls Tryd.prog 30 #[.pointer (some ⟨q, 0, none⟩), v] w fun e w' => e = .returned (.bool true) ∧ Below w.heap.size w w' := by
  have hsz := TT.sz_le h.wf
  have hks : t.keys.length = t.sz := TT.keys_len
  have HAl := Lib.hid (fun W (hr : RT W g v t.rows) => rAll_any v g t W hr h.wf hl)
  have HKk := Lib.hid (show ∀ x ∈ t.keys, x.length ≤ 32 from h.keysLen)
  have HRk := Lib.hid (show ∀ x ∈ t.rows, x.1.length ≤ 32 from h.rowsLen)
  have HDp := Lib.hid (dpU_dp h.wf)
  have hS2 := hS
  obtain ⟨base, cap, rfl, hrl, hcap⟩ := hS2.ex
  have b0 : Below w.heap.size w (w.alloc (.cells #[.slice base t.rows.length cap] 31)) := (Below.refl _ w).alloc (Nat.le_refl _) _
  have HO := Lib.hid (OneB.new w (.slice base t.rows.length cap) 31)
  have HT := Lib.hid (h.below b0)
  have HR := Lib.hid (hS.below b0)
  have HSl := Lib.hid (show ∀ W, Below (w.alloc (.cells #[.slice base t.rows.length cap] 31)).heap.size (w.alloc (.cells #[.slice base t.rows.length cap] 31)) W → RSl W (.slice base t.rows.length cap) t.rows from fun W hb => ⟨base, g, 0, cap, rfl, (hrl.below b0).below hb, hcap⟩)
  have HB0 := Lib.hid b0
  have hkl : t.keys.length ≤ 400 := by omega
  have HKs := Lib.hid hks
  clear h hS hrl b0 hsz hks
  go_enter Tryd.func30, Tryd.ntmps30
  go_upto_region 1 with fail
  have HCell := Lib.hid (show ∀ W, Below (w.alloc (.cells #[.slice base t.rows.length cap] 31)).heap.size (w.alloc (.cells #[.slice base t.rows.length cap] 31)) W → W.cell? ⟨w.heap.size, 0, none⟩ = some (.slice base t.rows.length cap) from fun W hb => (HO.out.below hb).c)
  generalize (w.alloc (.cells #[.slice base t.rows.length cap] 31)) = X at *
  have c0 := HCell.out X (Below.refl _ _)
  go_upto_region 2 with (first
    | (go_at_call 53; with_reducible refine (HAl.out _ HR.out).mono ?_; rintro e w2 ⟨kv, rfl, hks, hb⟩; obtain ⟨kb, kg, kc, rfl, _, _⟩ := hks.ex; have HKsl := Lib.hid hks; have HV := Lib.hid hb; clear c0 hks hb; have c0 := HCell.out _ HV.out)
    | fail)
  have HFr := Lib.hid (fun W (hb : Below X.heap.size X W) => From_any q t 0 0 W (HT.out.below hb) (by omega))
  rw [ahd_zero, List.drop_zero] at HFr
  have HNd := Lib.hid (fun W (hb : Below X.heap.size X W) => Nodes_any q t W (HT.out.below hb) (by have := HKs.out; omega))
  rw [← HKs.out] at HNd
  have HKv := Lib.hid (show ∀ W, Below w2.heap.size w2 W → KSl W (.slice kb t.keys.length kc) t.keys from fun W hb => HKsl.out.below hb)
  have HDt := Lib.hid (fun W (hb : Below X.heap.size X W) => Depth_any q t W (HT.out.below hb) (by have := HKs.out; omega))
  have HRd := Lib.hid (fun W (hb : Below w2.heap.size w2 W) => rDepth_any _ t.keys W (HKv.out W hb) (by omega) HKk.out)
  rw [HDp.out] at HRd
  have HU := Lib.hid ((Below.refl w2.heap.size w2).drew)
  have HVd := Lib.hid HV.out.drew
  have hw2 := HV.out.size
  go_region_held3 (fun w' => w'.cell? ⟨w.heap.size, 0, none⟩ = some (.slice base t.rows.length cap))
    (first | exact c0 | go_keep)
    (first
      | (go_at_call 26; with_reducible refine (HFr.out _ HVd.out).mono ?_; rintro e w3 ⟨fv, rfl, htd, hb⟩; have HTd := Lib.hid htd.told; have HU := Lib.hid (bthen HU.out hb); have HVd := Lib.hid (bthen HVd.out hb); clear c0 htd hb; have c0 := HCell.out _ HVd.out)
      | (go_at_call 15; with_reducible refine (rows_told HTd.out (HSl.out _ HVd.out) (by omega) HRk.out _).mono ?_; rintro e w4 ⟨rfl, hb⟩; have HU := Lib.hid (bthen HU.out hb); have HVd := Lib.hid (bthen HVd.out hb); clear c0 hb; have c0 := HCell.out _ HVd.out)
      | (go_at_call 22; with_reducible refine (Len_any q t _ (HT.out.below HVd.out)).mono ?_; rintro e w5 ⟨rfl, rfl⟩)
      | (go_at_call 24; with_reducible refine (HNd.out _ HVd.out).mono ?_; rintro e w5 ⟨rfl, hb⟩; have HU := Lib.hid (bthen HU.out hb); have HVd := Lib.hid (bthen HVd.out hb); clear c0 hb; have c0 := HCell.out _ HVd.out)
      | (go_at_call 25; with_reducible refine (HDt.out _ HVd.out).mono ?_; rintro e w6 ⟨rfl, hb⟩; have HU := Lib.hid (bthen HU.out hb); have HVd := Lib.hid (bthen HVd.out hb); clear c0 hb; have c0 := HCell.out _ HVd.out)
      | (go_at_call 54; with_reducible refine (HRd.out _ HU.out).mono ?_; rintro e w7 ⟨rfl, hb⟩; have HVd := Lib.hid (bthen HVd.out hb); clear c0 hb; have c0 := HCell.out _ HVd.out))
  all_goals
    go_wp2_with fail
    go_ret
    exact ⟨rfl, bthen HB0.out HVd.out⟩
end Go.Proofs.YtbacahoihkpkpaaDoor
