/- Plain: what Put and Take do to the rows as a list; the keys of TrieNone. -/
import Derived.Test.YtbacahoihkpkpaaDoorT33
namespace Go.Proofs.YtbacahoihkpkpaaDoor
open Go.RowKit Go.Shelf Go.Maps

theorem get_no {t : TT} (h : t.WF) {p : Key} (hg : t.get p = none) : ∀ v, (p, v) ∉ t.rows := fun u hm => by rw [(TT.get_iff h p u).2 hm] at hg; cases hg
theorem putR_ins {t t' : TT} (h : t.WF) (h' : t'.WF) {p : Key} {v : Int} (hp : p.length ≤ 32) (hg : t.get p = none) (hr : PutR t t' p v) : t'.rows = insR t.rows p v := by
  obtain ⟨h1, h2⟩ := insR_ok h.rows hp (get_no h hg) v
  exact ordR_ext h'.rows h1 fun ⟨x, u⟩ => by rw [hr x u, h2 x u]
theorem putR_set {t t' : TT} (h : t.WF) (h' : t'.WF) {p : Key} {u v : Int} {i : Nat} (hi : t.rows[i]? = some (p, u)) (hr : PutR t t' p v) : t'.rows = t.rows.set i (p, v) := by
  obtain ⟨h1, h2⟩ := setR_ok h.rows hi v
  exact ordR_ext h'.rows h1 fun ⟨x, u⟩ => by rw [hr x u, h2 x u]
theorem takeR_del {t t' : TT} (h : t.WF) (h' : t'.WF) {p : Key} {u : Int} {i : Nat} (hi : t.rows[i]? = some (p, u)) (hr : TakeR t t' p) : t'.rows = delR t.rows i := by
  obtain ⟨h1, h2⟩ := delR_ok h.rows hi
  exact ordR_ext h'.rows h1 fun ⟨x, u⟩ => by rw [hr x u, h2 x u]
theorem insR_len (L : List (Key × Int)) (p : Key) (v : Int) : (insR L p v).length = L.length + 1 := by
  have := aheadR_le L p
  simp [insR]
  omega

/-- the keys of TrieNone -/
def kk (j : Nat) : Key := bs ((j : Int) * 4096) 20
theorem kk_ok {j : Nat} (hj : j < 1048576) : ka (kk j) = (j : Int) * 4096 ∧ ((kk j).length : Int) = 20 ∧ (kk j).length ≤ 32 := by
  have hr : rightB ((j : Int) * 4096) 20 = true := by
    rw [rightB_iff _ _ (by omega) (by omega)]
    refine ⟨by omega, by omega, ?_⟩
    have : ((j : Int) * 4096).toNat = j * 4096 := by omega
    rw [this]
    show j * 4096 % 4096 = 0
    omega
  exact ka_bs (by omega) (by omega) hr
theorem kk_inj {i j : Nat} (hi : i < 1048576) (hj : j < 1048576) (e : kk i = kk j) : i = j := by
  have h1 := (kk_ok hi).1
  have h2 := (kk_ok hj).1
  rw [e, h2] at h1
  omega
structure KKs (t : TT) (i : Nat) : Prop where
  len : t.rows.length = i
  is : ∀ x u, (x, u) ∈ t.rows → ∃ j, j < i ∧ x = kk j
  z : 0 < i → ∃ u, (kk 0, u) ∈ t.rows
theorem KKs.nil : KKs .nil 0 := ⟨rfl, fun x u h => by simp [TT.rows] at h, fun h => by omega⟩
theorem KKs.no {t : TT} {i : Nat} (h : KKs t i) (hw : t.WF) {k : Nat} (hi : i ≤ k) (hk : k < 1048576) : t.get (kk k) = none := get_none hw fun u hm => by
  obtain ⟨j, h1, h2⟩ := h.is _ _ hm
  have := kk_inj hk (by omega) h2
  omega
theorem KKs.put {t t' : TT} {i : Nat} {v : Int} (h : KKs t i) (hi : i < 1000) (hw : t.WF) (hw' : t'.WF) (hr : PutR t t' (kk i) v) : KKs t' (i + 1) := by
  have hk := kk_ok (j := i) (by omega)
  have e := putR_ins hw hw' hk.2.2 (h.no hw (Nat.le_refl i) (by omega)) hr
  refine ⟨by rw [e, insR_len, h.len], fun x u hx => ?_, fun _ => ?_⟩
  · rcases (hr x u).1 hx with ⟨rfl, _⟩ | ⟨_, h2⟩
    · exact ⟨i, by omega, rfl⟩
    · obtain ⟨j, h3, h4⟩ := h.is x u h2
      exact ⟨j, by omega, h4⟩
  · by_cases h0 : i = 0
    · subst h0
      exact ⟨v, (hr _ _).2 (.inl ⟨rfl, rfl⟩)⟩
    · obtain ⟨u, hu⟩ := h.z (by omega)
      refine ⟨u, (hr _ _).2 (.inr ⟨fun e => ?_, hu⟩)⟩
      have := kk_inj (i := 0) (j := i) (by omega) (by omega) e
      omega
theorem KKs.zero {t : TT} {i : Nat} (h : KKs t i) (hw : t.WF) (hi : 0 < i) : ∃ u, t.get (kk 0) = some u := by
  obtain ⟨u, hu⟩ := h.z hi
  exact ⟨u, (TT.get_iff hw _ _).2 hu⟩
end Go.Proofs.YtbacahoihkpkpaaDoor
