/- Plain: what the rows fix; the trie of works. -/
import Derived.Test.YtbacahoihkpkpaaDoorT25
import Derived.Test.YtbacahoihkpkpaaDoorQ4
import Derived.Test.YtbacahoihkpkpaaDoorT16
import Derived.Test.YtbacahoihkpkpaaDoorT10
namespace Go.Proofs.YtbacahoihkpkpaaDoor
open Go.RowKit Go.Shelf Go.Maps

theorem keys_of_rows {t t' : TT} (h : t.WF) (h' : t'.WF) (e : t.rows = t'.rows) : t.keys = t'.keys :=
  ordK_ext h.ord h'.ord fun x => by rw [TT.keys_lcp h, TT.keys_lcp h', e]
theorem sz_of_rows {t t' : TT} (h : t.WF) (h' : t'.WF) (e : t.rows = t'.rows) : t.sz = t'.sz := by
  rw [← TT.keys_len, ← TT.keys_len, keys_of_rows h h' e]
theorem dp_le_of_keys {t t' : TT} (h : t.WF) (h' : t'.WF) (e : t.keys = t'.keys) : t.dp ≤ t'.dp := by
  cases hn : t.isN with
  | true => rw [TT.isN_iff] at hn; subst hn; simp [TT.dp]
  | false =>
    obtain ⟨x, hx, ex⟩ := TT.anc_ex h hn
    rw [← ex, show t.anc x = t'.anc x by unfold TT.anc; rw [e]]
    exact TT.anc_le h' (e ▸ hx)
theorem dp_of_rows {t t' : TT} (h : t.WF) (h' : t'.WF) (e : t.rows = t'.rows) : t.dp = t'.dp := by
  have hk := keys_of_rows h h' e
  have := dp_le_of_keys h h' hk
  have := dp_le_of_keys h' h hk.symm
  omega
theorem rows_ext {t t' : TT} (h : t.WF) (h' : t'.WF) (hm : ∀ x u, (x, u) ∈ t.rows ↔ (x, u) ∈ t'.rows) : t.rows = t'.rows :=
  ordR_ext h.rows h'.rows fun ⟨x, u⟩ => hm x u

def k8 : Key := [false, false, false, false, true, false, true, false]
def k16 : Key := k8 ++ [false, false, false, false, false, false, false, true]
def k16b : Key := k8 ++ [false, false, false, false, false, false, true, false]
def trie3 : TT := .node 0 k8 (some 1) (.node 0 (k8 ++ [false, false, false, false, false, false]) none (.node 0 k16 (some 2) .nil .nil) (.node 0 k16b (some 3) .nil .nil)) .nil
def trie2 : TT := .node 0 k8 (some 1) (.node 0 k16b (some 3) .nil .nil) .nil
theorem ka_k8 : ka k8 = 167772160 := by decide
theorem ka_k16 : ka k16 = 167837696 := by decide
theorem ka_k16b : ka k16b = 167903232 := by decide
theorem wf3 : trie3.WF := by
  unfold trie3
  refine ⟨by decide, by decide, by decide, by decide, ⟨by decide, by decide, by decide, by decide, ⟨by decide, by decide, by decide, by decide, trivial, trivial⟩, ⟨by decide, by decide, by decide, by decide, trivial, trivial⟩⟩, trivial⟩
theorem wf2 : trie2.WF := by
  unfold trie2
  refine ⟨by decide, by decide, by decide, by decide, ⟨by decide, by decide, by decide, by decide, trivial, trivial⟩, trivial⟩
theorem rows3 : trie3.rows = [(k8, 1), (k16, 2), (k16b, 3)] := rfl
theorem rows2 : trie2.rows = [(k8, 1), (k16b, 3)] := rfl
theorem n1 : k8 ≠ k16 := by decide
theorem n2 : k8 ≠ k16b := by decide
theorem n3 : k16 ≠ k16b := by decide
theorem works_rows_3 {t2 t3 : TT} (h : t3.WF) (h2 : t2.rows = [(k8, 1), (k16, 2)]) (p3 : PutR t2 t3 k16b 3) : t3.rows = [(k8, 1), (k16, 2), (k16b, 3)] := by
  rw [← rows3]
  refine rows_ext h wf3 fun x u => ?_
  rw [p3 x u, h2, rows3]
  simp only [List.mem_cons, List.not_mem_nil, or_false, Prod.mk.injEq]
  constructor
  · rintro (⟨rfl, rfl⟩ | ⟨_, ⟨rfl, rfl⟩ | ⟨rfl, rfl⟩⟩)
    · exact .inr (.inr ⟨rfl, rfl⟩)
    · exact .inl ⟨rfl, rfl⟩
    · exact .inr (.inl ⟨rfl, rfl⟩)
  · rintro (⟨rfl, rfl⟩ | ⟨rfl, rfl⟩ | ⟨rfl, rfl⟩)
    · exact .inr ⟨n2, .inl ⟨rfl, rfl⟩⟩
    · exact .inr ⟨n3, .inr ⟨rfl, rfl⟩⟩
    · exact .inl ⟨rfl, rfl⟩
theorem works_rows2 {t3 t4 : TT} (h : t4.WF) (h3 : t3.rows = [(k8, 1), (k16, 2), (k16b, 3)]) (p : TakeR t3 t4 k16) : t4.rows = [(k8, 1), (k16b, 3)] := by
  rw [← rows2]
  refine rows_ext h wf2 fun x u => ?_
  rw [p x u, h3, rows2]
  simp only [List.mem_cons, List.not_mem_nil, or_false, Prod.mk.injEq]
  constructor
  · rintro ⟨hne, ⟨rfl, rfl⟩ | ⟨rfl, rfl⟩ | ⟨rfl, rfl⟩⟩
    · exact .inl ⟨rfl, rfl⟩
    · exact absurd rfl hne
    · exact .inr ⟨rfl, rfl⟩
  · rintro (⟨rfl, rfl⟩ | ⟨rfl, rfl⟩)
    · exact ⟨n1, .inl ⟨rfl, rfl⟩⟩
    · exact ⟨n3.symm, .inr (.inr ⟨rfl, rfl⟩)⟩
theorem get_none {t : TT} (h : t.WF) {p : Key} (hn : ∀ u, (p, u) ∉ t.rows) : t.get p = none := by
  cases hg : t.get p with
  | none => rfl
  | some u => exact absurd ((TT.get_iff h p u).1 hg) (hn u)
def trie1 : TT := .node 0 k8 (some 1) .nil .nil
def trie12 : TT := .node 0 k8 (some 1) (.node 0 k16 (some 2) .nil .nil) .nil
theorem wf1 : trie1.WF := by
  unfold trie1
  exact ⟨by decide, by decide, by decide, by decide, trivial, trivial⟩
theorem wf12 : trie12.WF := by
  unfold trie12
  exact ⟨by decide, by decide, by decide, by decide, ⟨by decide, by decide, by decide, by decide, trivial, trivial⟩, trivial⟩
theorem works_rows_1 {t1 : TT} (h : t1.WF) (p1 : PutR .nil t1 k8 1) : t1.rows = [(k8, 1)] := by
  rw [show [(k8, (1 : Int))] = trie1.rows from rfl]
  refine rows_ext h wf1 fun x u => ?_
  rw [p1 x u]
  simp [TT.rows, trie1, TT.rowO]
theorem works_rows_12 {t1 t2 : TT} (h : t2.WF) (h1 : t1.rows = [(k8, 1)]) (p2 : PutR t1 t2 k16 2) : t2.rows = [(k8, 1), (k16, 2)] := by
  rw [show [(k8, (1 : Int)), (k16, 2)] = trie12.rows from rfl]
  refine rows_ext h wf12 fun x u => ?_
  rw [p2 x u, h1]
  simp only [TT.rows, trie12, TT.rowO, List.mem_cons, List.mem_append, List.not_mem_nil, or_false, Prod.mk.injEq]
  constructor
  · rintro (⟨rfl, rfl⟩ | ⟨_, rfl, rfl⟩)
    · exact .inr ⟨rfl, rfl⟩
    · exact .inl ⟨rfl, rfl⟩
  · rintro (⟨rfl, rfl⟩ | ⟨rfl, rfl⟩)
    · exact .inr ⟨n1, rfl, rfl⟩
    · exact .inl ⟨rfl, rfl⟩
theorem putR_len {t t' : TT} (h : t.WF) (h' : t'.WF) {p : Key} {v : Int} (hp : p.length ≤ 32) (hr : PutR t t' p v) : t'.rows.length ≤ t.rows.length + 1 := by
  obtain ⟨h1, _, h3⟩ := TT.put_ok h (v := v) hp 0 0
  have e : t'.rows = (t.put 0 0 p v).rows := rows_ext h' h1 fun x u => by rw [hr x u]; exact (h3 x u).symm
  rw [e]
  cases hg : t.get p with
  | none => rw [put_len_new h hp hg]; exact Nat.le_refl _
  | some u => rw [put_len_old h hp hg]; omega
def a1 : Key := k8 ++ [false, false, false, false, false, false, false, true, false, false, false, false, false, false, true, false, false, false, false, false, false, false, true, true]
def a2 : Key := k8 ++ [false, false, false, false, true, false, false, true, false, false, false, false, true, false, false, true, false, false, false, false, true, false, false, true]
def a3 : Key := [false, false, false, false, true, false, true, true] ++ List.replicate 24 false
theorem ka_a1 : ka a1 = 167838211 := by decide
theorem ka_a2 : ka a2 = 168364297 := by decide
theorem ka_a3 : ka a3 = 184549376 := by decide
theorem works_f1 {t : TT} (h : t.WF) (e : t.rows = [(k8, 1), (k16, 2), (k16b, 3)]) : (t.above a1).getLast? = some (k16, 2) ∧ (t.above a2).getLast? = some (k8, 1) ∧ (t.above a3).getLast? = none := by
  rw [TT.above_eq h, TT.above_eq h, TT.above_eq h, e]
  decide
theorem works_f2 {t : TT} (h : t.WF) (e : t.rows = [(k8, 1), (k16b, 3)]) : (t.above a1).getLast? = some (k8, 1) := by
  rw [TT.above_eq h, e]
  decide
end Go.Proofs.YtbacahoihkpkpaaDoor
